/- Texts YtnkbpigjdojakaaGreatPtResp .. YtnkbpigjdojakaaGreatRegSnoc, joined. What they prove: the contracts of the functions that the law reaches, and plain law. -/
import Derived.Test.YtnkbpigjdojakaaGreatG7
set_option maxRecDepth 100000
set_option maxHeartbeats 6400000
variable {A:Prop}
theorem MD (h:A:=by
 refine sV ?_;intro m p hm D v x h hE;have lk:∀ z:Later x,(Instr.lookup 77 (.map (some a.mb)) (vU (id:Nat)) true).run Tryz.prog z.world=.ok (.tuple #[.agg #[vI 0,vI 0,vI 0,vI 0,vU 0,vI 0,vI 0,.string ⟨#[]⟩,vU 0],.bool false]) z.world:=by
  rcases m with _|_|m
  iterate 2 (cases hm;obtain ⟨_,qq,_,_,h0⟩:=h;exact fun z=>((h0.kY (mb:=a.mb) (l:=bU t.begun) (by simp)).later z.below).EK Tryz.underlying77 Ug O0.out XD.out)
  simp [stM] at hm
 exact qP):A:=h
theorem c984 (h:A:=by simp [results,Tryz.results85,go_sem,r2]):A:=h
theorem c985 (h:A:=by simp [results,Tryz.results86,go_sem,r2]):A:=h
theorem FB (h:A:=by
 refine sV ?_;intro m p hm D v x h hE;have lk:∀ z:Later x,(Instr.lookup 77 (.map (some a.mb)) (vU (id:Nat)) true).run Tryz.prog z.world=.ok (.tuple #[.agg #[vI (w:Nat),vI bg.q.y.ck,vI bg.q.y.k,vI bg.q.y.h,vU bg.q.y.n,vI bg.q.e,vI bg.q.ek,vS bg.q.offer,vU bg.born],.bool true]) z.world:=by
  rcases m with _|_|m
  iterate 2 (cases hm;obtain ⟨_,qq,_,_,h0⟩:=h;exact fun z=>((h0.kY (mb:=a.mb) (l:=bU t.begun) (by simp)).later z.below).look Tryz.underlying77 Ug ox.out)
  simp [stM] at hm
 exact qP):A:=h
theorem EP (h:A:=by simp only [World.size_alloc];omega):A:=h
theorem c987 (h:A:=by simp [results,Tryz.results87,go_sem,r2]):A:=h
theorem c988 (h:A:=by rw [gj];exact ⟨HA.out.cp,HA.out.cq,HA.out.kp,HA.out.kq,HA.out.pa,HA.out.aO,HA.out.slots⟩):A:=h
theorem YK (h:A:=by
 refine sQ ?_;intro v x hM hE;have hw1:(wi:Int)<(t.aj.length:Int):=by have:=rI.out;omega
 have hw2:(0:Int)≤(wi:Int):=by omega
 exact qP):A:=h
theorem Yd (h:A:=by cases e;exact cC _):A:=h
theorem XM (h:A:=by
 go_enter Tryz.func83,Tryz.ntmps83;go_wp2_with fail;generalize w.alloc (cl #[vU f.lo,vU f.hi,.pointer c2,.pointer c3,.pointer none] 213)=W at *;refine (CT.out W).mono ?_;rintro e w1 ⟨rfl,hb1⟩;have M1:=Hi (MA.out.later hb1);clear hb1 MA CT;go_wp2_with fail;go_ret2;exact ⟨rfl,M1.out⟩):A:=h
theorem Qc (h:A:=by
 have hz:w1.heap[w.heap.size]?=some (cl (bR af.aQ) 82):=M1.out.get 0 rfl;have MZ:Hid (Mem w [(w.heap.size,cl (lF) 82)] w1):=Hi ((Mem.with ⟨M1.out.dZ,fun _ h=>absurd h (by simp)⟩ hz));have rz:=rl MZ.out.rules;have od:=Hi (gQ (m:=af.aQ) M1.out.dZ (cC w.heap.size));have HZ:=Hi (ia (jd (m:=af.aQ) hz));clear hz MZ;go_wp2_with fail;change bodyPost _ _ _ _ _ (jX w1 w.heap.size af.aQ);clear rz;generalize jX w1 w.heap.size af.aQ=WW at *;have rz:=HZ.out;refine bodyPost_ret (v:=.tuple #[.agg (lF),vI (3:Nat)]) (by simp [results,Tryz.results38,go_sem,rz,af.aQ]) rfl ?_;exact ⟨rfl,od.out⟩):A:=h
theorem c990 (h:A:=by simp [results,Tryz.results38,go_sem,rz,af.aQ]):A:=h
theorem Zx (h:A:=by
 have rz:=HZ.out;refine bodyPost_ret (v:=.tuple #[.agg (lF),vI (3:Nat)]) (by simp [results,Tryz.results38,go_sem,rz,af.aQ]) rfl ?_;exact ⟨rfl,od.out⟩):A:=h
theorem Ye (h:A:=by simp [results,Tryz.results19,go_sem,r2]):A:=h
theorem Yf (h:A:=by unfold cN iz;simp only [bQ,bG];exact K3):A:=h
theorem QT (h:A:=by
 refine wZ ?_;intro D v qq x ch h0 yy;first|exact ⟨_,NF.ou (B:=[]) _ _ _ _ _ _ h0,wE⟩|exact ⟨_,NF.ou (B:=[_]) _ _ _ _ _ _ h0,wE⟩|exact ⟨_,NF.ou (B:=_) _ _ _ _ _ _ h0,wE⟩):A:=h
theorem c993 (h:A:=by simp [results,Tryz.results31,go_sem,r2]):A:=h
theorem Kt (h:A:=by unfold af.Pt.has;simp;omega):A:=h
theorem c995 (h:A:=by rw [e,←h];exact mG hz):A:=h
theorem SU (h:A:=by
 rcases List.mem_cons.1 hx with h|h
 ·exact absurd (by rw [←h]) e
 ·exact h):A:=h
theorem c996 (h:A:=by simp [af.aS.order]):A:=h
theorem c997 (h:A:=by rw [PX.out,E5,HNN.out,jO,HXS.out];exact hown'):A:=h
theorem aar (h:A:=by
 clear hown' hgrow' hrow2 hv r PX HXS HNN mE hz0 hz1 hz2;exact tO):A:=h
namespace Go.Proofs.N0
open Go.RowKit Go.Maps Go.ChangeMaps
variable {id C6:Nat} {bg:af.pW} {m:af.bJ} {bW d0 d1:Int}
theorem Ug (w:World):(zeroValue 90).run Tryz.prog w=.ok (.agg #[vI 0,vI 0,vI 0,vI 0,vU 0,vI 0,vI 0,.string ⟨#[]⟩,vU 0]) w:=aI
section
variable {S:List Nat} {w0 W:World} {p b w:Nat} {L:List (Nat×Obj)} {R:List aW} {t:af.Pt} {st bO:af.Store}
theorem cQ.del {w:World} {mb k:Nat} {l:List (Nat×Value)} {mt e ty:TypeId} (h:cQ w mb l) (hu:Tryz.prog.underlying mt=some (.map 31 e)) (hb:k<18446744073709551616):∃ w',(Builtin.delete_ #[mt,31] ty #[.map (some mb),vU k]).run Tryz.prog w=.ok (.tuple #[]) w'∧cQ w' mb (l.filter fun p=>!(p.1==k))∧az [mb] w w':=by obtain ⟨h1,D,h2,h3⟩:=h;obtain ⟨w',hrun,ho,hmt⟩:=h2.drop mX hu (iy hb) ty;have h4:=h3.del kV h1.1 k;have h5:=ho.tight;rw [h4.size] at h5;exact ⟨w',hrun,⟨⟨(List.filter_sublist.map _).nodup h1.1,fun x hx=>h1.2 x (List.mem_filter.1 hx).1⟩,_,h5,h4⟩,az.grown (S:=[mb]) hmt.grown (fun j e=>.inl nX)⟩
theorem Uk {l:List (Nat×af.pW)} (h:∀ x∈l,x.1≠id):∀ x∈bU l,x.1≠id:=fun x hx=>by obtain ⟨y,hy,rfl⟩:=List.mem_map.1 hx;exact h y hy
theorem Mj {l:List (Nat×af.pW)} (h:(id,bg)∈l):(id,pg bg)∈bU l:=List.mem_map.2 ⟨(id,bg),h,rfl⟩
theorem Yh (l:List (Nat×af.pW)) (id:Nat):(bU l).filter (fun p=>!(p.1==id))=bU (af.Eu l id):=by unfold bU af.Eu;rw [List.filter_map];rfl
theorem O1 {now:Nat} (h:NF S w0 W (ah p st::bK p b t::R) L) (hm:m.Wf) (hto:m.v 2=(id:Int)) (hfr:m.v 1=(C6:Int)) (hno:∀ x∈t.begun,x.1≠id) :
 Calls Tryz.prog 85 #[vP b 0,eY m bW now d0 d1] W (cI S w0 R L p b st t af.nJ 5):=by
 obtain ⟨a,RR,LL,ha,hw,h,hback⟩:=lf h
 have lu:id<18446744073709551616:=by have:=(hm.pT 2 (by simp)).2;omega
 have XD:=Hi (Uk hno)
 clear hno
 unfold iz at h
 unfold eY
 rw [hto,hfr]
 have F0:=Hi ((h.alloc (cl (kj m (C6:Nat) (id:Nat) bW now d0 d1) 127)).alloc (cl (dK) 35))
 simp only [World.size_alloc] at F0
 obtain ⟨mZ,HA,HW,HM,HTO,P7,O0⟩:=PL hback ha hw hm hto hfr lu
 clear h hback ha hw hm hto hfr lu
 have r:=rl F0.out.mem.rules
 go_enter Tryz.func85,Tryz.ntmps85
 go_wp2_with fail
 clear r
 refine sk (n:=76) [12] [11] (tb [vP b 0,vP b 0,vP b 11,some (.map (some a.mb)),vP W.heap.size 0,vP W.heap.size 2,vU (id:Nat),some (.tuple #[.agg #[vI 0,vI 0,vI 0,vI 0,vU 0,vI 0,vI 0,.string ⟨#[]⟩,vU 0],.bool false]),some (.tuple #[.agg #[vI 0,vI 0,vI 0,vI 0,vU 0,vI 0,vI 0,.string ⟨#[]⟩,vU 0],.bool false]),some (.agg #[vI 0,vI 0,vI 0,vI 0,vU 0,vI 0,vI 0,.string ⟨#[]⟩,vU 0]),some (.bool false),none,none,some (.bool false)]) [(W.heap.size+1,cl (dK) 35),(W.heap.size,cl (kj m (C6:Nat) (id:Nat) bW now d0 d1) 127),(b,cl (jt p a t) 80)] ((a.rp,cl a.kp 65)::LL) [([(11,cl #[vI 0,vI 0,vI 0,vI 0,vU 0,vI 0,vI 0,.string ⟨#[]⟩,vU 0] 90)],ah p st::bw a.g t.guard t.aj.length::dz a.mb (bU t.begun)::RR,[]),
  ([(11,cl #[vI 0,vI 0,vI 0,vI 0,vU 0,vI 0,vI 0,.string ⟨#[]⟩,vU 0] 90)],ah p st::bw a.g t.guard t.aj.length::dz a.mb (bU t.begun)::RR,[])] (F0.out) ⟨sP,sP,sP,sP,sP,sP,sP,?_,sP,sP,sP,sA 0 (cl #[vI 0,vI 0,vI 0,vI 0,vU 0,vI 0,vI 0,.string ⟨#[]⟩,vU 0] 90),sW9,sP,trivial⟩ ?_
 ·exact MD
 ·intro v qq x hF hA h;simp only [SA,SC] at hA h;generalize qq 11=q11 at hA h;have F1:=Hi h;simp only [PU,bF,Nat.reduceAdd,gT hF 13,hA];clear hF hA h;clear F0;have r:=rl F1.out.mem.rules;have F2:=Hi (F1.out.ou (B:=[_]) (vI 0) (.string ⟨#[]⟩) (.bool false) (vI 0) (.slice none 0 0) (vI 0));simp only [bQ,bG] at F2;have r2:=rl F2.out.mem.rules;have F3:=Hi (F2.out.sub (zq _ _)|>.sub (zq _ _)|>.sub (zq _ _));go_wp2_with fail;exact bodyPost_ret (v:=.tuple #[.agg (dK),vI 5]) c984 rfl (cI.none rfl (mZ.out [] [] _ st t.guard t.begun t.ak t.messages HW.out F3.out))
theorem Ul {now:Nat} (h:NF S w0 W (ah p st::bK p b t::R) L) (hm:m.Wf) (hto:m.v 2=(id:Int)) (hfr:m.v 1=(C6:Int)) (hno:∀ x∈t.begun,x.1≠id) :
 Calls Tryz.prog 86 #[vP b 0,eY m bW now d0 d1] W (cI S w0 R L p b st t af.nJ 5):=by
 obtain ⟨a,RR,LL,ha,hw,h,hback⟩:=lf h
 have lu:id<18446744073709551616:=by have:=(hm.pT 2 (by simp)).2;omega
 have XD:=Hi (Uk hno)
 clear hno
 unfold iz at h
 unfold eY
 rw [hto,hfr]
 have F0:=Hi ((h.alloc (cl (kj m (C6:Nat) (id:Nat) bW now d0 d1) 127)).alloc (cl (dK) 35))
 simp only [World.size_alloc] at F0
 obtain ⟨mZ,HA,HW,HM,HTO,P7,O0⟩:=PL hback ha hw hm hto hfr lu
 clear h hback ha hw hm hto hfr lu
 have r:=rl F0.out.mem.rules
 go_enter Tryz.func86,Tryz.ntmps86
 go_wp2_with fail
 clear r
 refine sk (n:=28) [12] [11] (tb [vP b 0,vP b 0,vP b 11,some (.map (some a.mb)),vP W.heap.size 0,vP W.heap.size 2,vU (id:Nat),some (.tuple #[.agg #[vI 0,vI 0,vI 0,vI 0,vU 0,vI 0,vI 0,.string ⟨#[]⟩,vU 0],.bool false]),some (.tuple #[.agg #[vI 0,vI 0,vI 0,vI 0,vU 0,vI 0,vI 0,.string ⟨#[]⟩,vU 0],.bool false]),some (.agg #[vI 0,vI 0,vI 0,vI 0,vU 0,vI 0,vI 0,.string ⟨#[]⟩,vU 0]),some (.bool false),none,none,some (.bool false)]) [(W.heap.size+1,cl (dK) 35),(W.heap.size,cl (kj m (C6:Nat) (id:Nat) bW now d0 d1) 127),(b,cl (jt p a t) 80)] ((a.rp,cl a.kp 65)::LL) [([(11,cl #[vI 0,vI 0,vI 0,vI 0,vU 0,vI 0,vI 0,.string ⟨#[]⟩,vU 0] 90)],ah p st::bw a.g t.guard t.aj.length::dz a.mb (bU t.begun)::RR,[]),
  ([(11,cl #[vI 0,vI 0,vI 0,vI 0,vU 0,vI 0,vI 0,.string ⟨#[]⟩,vU 0] 90)],ah p st::bw a.g t.guard t.aj.length::dz a.mb (bU t.begun)::RR,[])] (F0.out) ⟨sP,sP,sP,sP,sP,sP,sP,?_,sP,sP,sP,sA 0 (cl #[vI 0,vI 0,vI 0,vI 0,vU 0,vI 0,vI 0,.string ⟨#[]⟩,vU 0] 90),sW9,sP,trivial⟩ ?_
 ·exact MD
 ·intro v qq x hF hA h;simp only [SA,SC] at hA h;generalize qq 11=q11 at hA h;have F1:=Hi h;simp only [PU,bF,Nat.reduceAdd,gT hF 13,hA];clear hF hA h;clear F0;have r:=rl F1.out.mem.rules;have F2:=Hi (F1.out.ou (B:=[_]) (vI 0) (.string ⟨#[]⟩) (.bool false) (vI 0) (.slice none 0 0) (vI 0));simp only [bQ,bG] at F2;have r2:=rl F2.out.mem.rules;have F3:=Hi (F2.out.sub (zq _ _)|>.sub (zq _ _)|>.sub (zq _ _));go_wp2_with fail;exact bodyPost_ret (v:=.tuple #[.agg (dK),vI 5]) c985 rfl (cI.none rfl (mZ.out [] [] _ st t.guard t.begun t.ak t.messages HW.out F3.out))
theorem rej_ok {now:Nat} (h:NF S w0 W (ah p st::bK p b t::R) L) (hm:m.Wf) (hto:m.v 2=(id:Int)) (hfr:m.v 1=(C6:Int)) (hin:(id,bg)∈t.begun) (Ai:bg.peer=(w:Int)) :
 Calls Tryz.prog 86 #[vP b 0,eY m bW now d0 d1] W (cI S w0 R L p b st t ⟨(w:Int),[],false,0,[],m.v 5⟩ 0):=by
 obtain ⟨a,RR,LL,ha,hw,h,hback⟩:=lf h
 have lu:id<18446744073709551616:=by have:=(hm.pT 2 (by simp)).2;omega
 have ER:=Mj hin
 unfold pg at ER
 rw [Ai] at ER
 have ox:=Hi ER
 clear ER
 clear hin Ai
 unfold iz at h
 unfold eY
 rw [hto,hfr]
 have F0:=Hi ((h.alloc (cl (kj m (C6:Nat) (id:Nat) bW now d0 d1) 127)).alloc (cl (dK) 35))
 simp only [World.size_alloc] at F0
 obtain ⟨mZ,HA,HW,HM,HTO,P7,O0⟩:=PL hback ha hw hm hto hfr lu
 clear h hback ha hw hm hto hfr lu
 have r:=rl F0.out.mem.rules
 go_enter Tryz.func86,Tryz.ntmps86
 go_wp2_with fail
 clear r
 refine sk (n:=28) [12] [11] (tb [vP b 0,vP b 0,vP b 11,some (.map (some a.mb)),vP W.heap.size 0,vP W.heap.size 2,vU (id:Nat),some (.tuple #[.agg #[vI (w:Nat),vI bg.q.y.ck,vI bg.q.y.k,vI bg.q.y.h,vU bg.q.y.n,vI bg.q.e,vI bg.q.ek,vS bg.q.offer,vU bg.born],.bool true]),some (.tuple #[.agg #[vI (w:Nat),vI bg.q.y.ck,vI bg.q.y.k,vI bg.q.y.h,vU bg.q.y.n,vI bg.q.e,vI bg.q.ek,vS bg.q.offer,vU bg.born],.bool true]),some (.agg #[vI (w:Nat),vI bg.q.y.ck,vI bg.q.y.k,vI bg.q.y.h,vU bg.q.y.n,vI bg.q.e,vI bg.q.ek,vS bg.q.offer,vU bg.born]),some (.bool true),none,none,some (.bool true)]) [(W.heap.size+1,cl (dK) 35),(W.heap.size,cl (kj m (C6:Nat) (id:Nat) bW now d0 d1) 127),(b,cl (jt p a t) 80)] ((a.rp,cl a.kp 65)::LL) [([(11,cl #[vI 0,vI 0,vI 0,vI 0,vU 0,vI 0,vI 0,.string ⟨#[]⟩,vU 0] 90)],ah p st::bw a.g t.guard t.aj.length::dz a.mb (bU t.begun)::RR,[]),
  ([(11,cl #[vI (w:Nat),vI bg.q.y.ck,vI bg.q.y.k,vI bg.q.y.h,vU bg.q.y.n,vI bg.q.e,vI bg.q.ek,vS bg.q.offer,vU bg.born] 90)],ah p st::bw a.g t.guard t.aj.length::dz a.mb (bU t.begun)::RR,[])] (F0.out) ⟨sP,sP,sP,sP,sP,sP,sP,?_,sP,sP,sP,sA 0 (cl #[vI 0,vI 0,vI 0,vI 0,vU 0,vI 0,vI 0,.string ⟨#[]⟩,vU 0] 90),sW9,sP,trivial⟩ ?_
 ·exact FB
 ·intro v qq x hF hA h;simp only [SA,SC] at hA h;generalize qq 11=q11 at hA h;have F1:=Hi h;simp only [PU,bF,Nat.reduceAdd,gT hF 13,hA];clear hF hA h;clear F0;have r:=rl F1.out.mem.rules;have F2:=Hi (F1.out.ou (B:=[_]) (vI (w:Nat)) (.string ⟨#[]⟩) (.bool false) (vI 0) (.slice none 0 0) (vI (m.v 5)));simp only [bQ,bG] at F2;have r2:=rl F2.out.mem.rules;have F3:=Hi (F2.out.sub (zq _ _)|>.sub (zq _ _)|>.sub (zq _ _));go_wp2_with fail;exact bodyPost_ret (v:=.tuple #[.agg #[vI (w:Nat),.string ⟨#[]⟩,.bool false,vI 0,.slice none 0 0,vI (m.v 5)],vI 0]) c985 rfl (cI.none rfl (mZ.out [] [] _ st t.guard t.begun t.ak t.messages HW.out F3.out))
theorem Yi {now:Nat} (h:NF S w0 W (ah p st::bK p b t::R) L) (hm:m.Wf) (hto:m.v 2=(id:Int)) (hfr:m.v 1=(C6:Int)) {z:af.jq} {t2:af.Pt} (hin:(id,bg)∈t.begun) (Ai:bg.peer=(w:Int)) (hwl:w<t.aj.length) (Vq:af.vB st t.me bg.q m=(bO,z,0)) (hz:bO.has z.h=true∧bO.has z.send=true∧bO.has z.recv=true) (hfrs:∀ y∈t.live,y.1≠id) (qc:t.live.length<1000000) (hj:t.join w ⟨id,C6,now⟩ (ic z) ((t.slots.getD w af.eL).mine ⟨id,C6,now⟩)=t2) (hwj:t2.Wf) (hwf:({t2 with begun:=af.Eu t2.begun id}:af.Pt).Wf) :
 Calls Tryz.prog 85 #[vP b 0,eY m bW now d0 d1] W (cI S w0 R L p b bO {t2 with begun:=af.Eu t2.begun id} ⟨(w:Int),[],false,z.h,[],0⟩ 0):=by
 obtain ⟨a,RR,LL,ha,hw,h,hback⟩:=lf h
 have lu:id<18446744073709551616:=by have:=(hm.pT 2 (by simp)).2;omega
 have ER:=Mj hin
 unfold pg at ER
 rw [Ai] at ER
 have ox:=Hi ER
 clear ER
 have CF:Hid (∀ {W:World} S1,SF S1 W W p st []→Calls Tryz.prog 123 #[vP p 0,.agg #[vI t.me.dh,vI t.me.cD],.agg (vM bg.q),.agg #[vI (m.v 0),vU (C6:Nat),vU (id:Nat),vS m.offer,vI (m.v 4),vI (m.v 5),vI (m.v 6),vI (m.v 7),vI (m.v 8),vI (m.v 9),vI (m.v 10),vU (m.v 11),vU (m.v 12)]] W fun e w'=>e=.returned (.tuple #[.agg (iH z),vI 0])∧SF S1 W w' p bO []):=Hi fun S1 hs=>by
  have:=(finish_at hs hw.me.1 (hw.begun _ hin).1 hm Vq).1
  first|rw [hto,hfr] at this|(unfold dW at this;rw [hto,hfr] at this)
  exact this
 obtain ⟨HWI,HZ,HFRS,Ua,HJ,HWJ,tR⟩:=PL hwl hz hfrs qc hj hwj hwf
 clear hin Ai hwl Vq hz hfrs qc hj hwj hwf
 unfold iz at h
 unfold eY
 rw [hto,hfr]
 have F0:=Hi ((h.alloc (cl (kj m (C6:Nat) (id:Nat) bW now d0 d1) 127)).alloc (cl (dK) 35))
 simp only [World.size_alloc] at F0
 obtain ⟨mZ,HA,HW,HM,HTO,P7,O0⟩:=PL hback ha hw hm hto hfr lu
 clear h hback ha hw hm hto hfr lu
 have r:=rl F0.out.mem.rules
 go_enter Tryz.func85,Tryz.ntmps85
 go_wp2_with fail
 clear r
 refine sk (n:=76) [12] [11] (tb [vP b 0,vP b 0,vP b 11,some (.map (some a.mb)),vP W.heap.size 0,vP W.heap.size 2,vU (id:Nat),some (.tuple #[.agg #[vI (w:Nat),vI bg.q.y.ck,vI bg.q.y.k,vI bg.q.y.h,vU bg.q.y.n,vI bg.q.e,vI bg.q.ek,vS bg.q.offer,vU bg.born],.bool true]),some (.tuple #[.agg #[vI (w:Nat),vI bg.q.y.ck,vI bg.q.y.k,vI bg.q.y.h,vU bg.q.y.n,vI bg.q.e,vI bg.q.ek,vS bg.q.offer,vU bg.born],.bool true]),some (.agg #[vI (w:Nat),vI bg.q.y.ck,vI bg.q.y.k,vI bg.q.y.h,vU bg.q.y.n,vI bg.q.e,vI bg.q.ek,vS bg.q.offer,vU bg.born]),some (.bool true),none,none,some (.bool true)]) [(W.heap.size+1,cl (dK) 35),(W.heap.size,cl (kj m (C6:Nat) (id:Nat) bW now d0 d1) 127),(b,cl (jt p a t) 80)] ((a.rp,cl a.kp 65)::LL) [([(11,cl #[vI 0,vI 0,vI 0,vI 0,vU 0,vI 0,vI 0,.string ⟨#[]⟩,vU 0] 90)],ah p st::bw a.g t.guard t.aj.length::dz a.mb (bU t.begun)::RR,[]),
  ([(11,cl #[vI (w:Nat),vI bg.q.y.ck,vI bg.q.y.k,vI bg.q.y.h,vU bg.q.y.n,vI bg.q.e,vI bg.q.ek,vS bg.q.offer,vU bg.born] 90)],ah p st::bw a.g t.guard t.aj.length::dz a.mb (bU t.begun)::RR,[])] (F0.out) ⟨sP,sP,sP,sP,sP,sP,sP,?_,sP,sP,sP,sA 0 (cl #[vI 0,vI 0,vI 0,vI 0,vU 0,vI 0,vI 0,.string ⟨#[]⟩,vU 0] 90),sW9,sP,trivial⟩ ?_
 ·exact FB
 ·intro v qq x hF hA h;simp only [SA,SC] at hA h;generalize qq 11=q11 at hA h;have F1:=Hi h;simp only [PU,bF,Nat.reduceAdd,gT hF 13,hA];clear hF hA h;clear F0;go_wp2_with fail;refine sk (n:=76) [13,18] [17] (tb [vP b 0,vP b 0,vP b 0,vP p 0,vP b 0,vP b 0,vP b 1,vP b 1,some (.agg #[vI t.me.dh,vI t.me.cD]),vP q11 1,some (.agg (vM bg.q)),vP W.heap.size 0,some (.agg #[vI (m.v 0),vU (C6:Nat),vU (id:Nat),vS m.offer,vI (m.v 4),vI (m.v 5),vI (m.v 6),vI (m.v 7),vI (m.v 8),vI (m.v 9),vI (m.v 10),vU (m.v 11),vU (m.v 12)]),some (.tuple #[.agg (iH z),vI 0]),some (.tuple #[.agg (iH z),vI 0]),some (.agg (iH z)),vI 0,none,none,vI 0]) [(q11,cl #[vI (w:Nat),vI bg.q.y.ck,vI bg.q.y.k,vI bg.q.y.h,vU bg.q.y.n,vI bg.q.e,vI bg.q.ek,vS bg.q.offer,vU bg.born] 90),(W.heap.size+1,cl (dK) 35),(W.heap.size,cl (kj m (C6:Nat) (id:Nat) bW now d0 d1) 127),(b,cl (jt p a t) 80)] ((a.rp,cl a.kp 65)::LL) [([(17,cl #[vI 0,vI 0,vI 0,vI 0] 113)],ah p st::bw a.g t.guard t.aj.length::dz a.mb (bU t.begun)::RR,[]),
   ([(17,cl #[vI 0,vI 0,vI 0,vI 0] 113)],ah p bO::bw a.g t.guard t.aj.length::dz a.mb (bU t.begun)::RR,[]),
   ([(17,cl (iH z) 113)],ah p bO::bw a.g t.guard t.aj.length::dz a.mb (bU t.begun)::RR,[])] (F1.out) ⟨sP,sP,sP,sP,sP,sP,sP,sP,sP,sP,sP,sP,sP,?_,sP,sP,sP,sA 1 (cl #[vI 0,vI 0,vI 0,vI 0] 113),Y2,sP,trivial⟩ ?_
  ·refine wC ?_;intro D v qq x h0;exact mo (h0.gL fun S1 hs=>CF.out S1 hs)
  ·intro v qq x hF hA h;simp only [SA,SC] at hA h;generalize qq 17=q17 at hA h;have F3:=Hi h;simp only [PU,bF,Nat.reduceAdd,gT hF 19,hA];clear hF hA h;clear F1;have g0:=mZ.out [] [(q17,cl (iH z) 113),(q11,cl #[vI (w:Nat),vI bg.q.y.ck,vI bg.q.y.k,vI bg.q.y.h,vU bg.q.y.n,vI bg.q.e,vI bg.q.ek,vS bg.q.offer,vU bg.born] 90),(W.heap.size+1,cl (dK) 35),(W.heap.size,cl (kj m (C6:Nat) (id:Nat) bW now d0 d1) 127)] _ bO t.guard t.begun t.ak t.messages HW.out F3.out;have CJ:=Hi (OZ (w:=w) (sx:=z) (o:=⟨id,C6,now⟩) g0 HWI.out HZ.out O0.out HFRS.out Ua.out (by rw [HJ.out];exact HWJ.out));rw [HJ.out] at CJ;unfold eV mW at CJ;clear g0 mZ;have r:=rl F3.out.mem.rules;go_wp2_with fail;clear r;refine CJ.out.mono ?_;rintro e w5 ⟨rfl,g⟩;obtain ⟨a2,yP,LL2,Hq,hW2,g,AX⟩:=C5 [(q17,cl (iH z) 113),(q11,cl #[vI (w:Nat),vI bg.q.y.ck,vI bg.q.y.k,vI bg.q.y.h,vU bg.q.y.n,vI bg.q.e,vI bg.q.ek,vS bg.q.offer,vU bg.born] 90),(W.heap.size+1,cl (dK) 35),(W.heap.size,cl (kj m (C6:Nat) (id:Nat) bW now d0 d1) 127)] g;clear F3 CJ;obtain ⟨HBK2,VB⟩:=hi2 AX hW2;unfold iz at g;have F6:=Hi g;simp only [bQ,bG] at F6;clear g AX Hq hW2;go_wp2_with fail;have r:=rl F6.out.mem.rules;go_still_tail 7,aI;change wpList _ _ _ _ _ w5.drew;have F7:=Hi (F6.out.later (Below.refl _ w5).drew);generalize w5.drew=w7 at F7;clear r F6;obtain ⟨w8,hrun,hm8,ht8⟩:=(F7.out.kY (mb:=a2.mb) (l:=bU t2.begun) aH).del (k:=id) (ty:=0) Tryz.underlying77 O0.out;rw [Yh] at hm8;have F8:=Hi (((F7.out.bP (tE (l₁:=[_,_]))).lR hm8 ht8).bP (tE (l₁:=[_,_])).symm);have GR:=Hi hrun;clear hrun hm8 ht8 F7;refine pq _ rfl _ _ 77 31 rfl rfl rfl GR.out ?_;try simp only [Act.put]
   clear GR;have r:=rl F8.out.mem.rules;have F9:=Hi (F8.out.ou (B:=[_,_]) (vI (w:Nat)) (.string ⟨#[]⟩) (.bool false) (vI z.h) (.slice none 0 0) (vI 0));simp only [bQ,bG] at F9;have r2:=rl F9.out.mem.rules;have qR:=Hi (F9.out.sub (zq _ _)|>.sub (zq _ _)|>.sub (zq _ _)|>.sub (zq _ _));go_wp2_with fail;exact bodyPost_ret (v:=.tuple #[.agg #[vI (w:Nat),.string ⟨#[]⟩,.bool false,vI z.h,.slice none 0 0,vI 0],vI 0]) c984 rfl (cI.none rfl (HBK2.out [] [] _ bO t2.guard (af.Eu t2.begun id) t2.ak t2.messages tR.out qR.out))
end
section
variable {S:List Nat} {w0 W:World} {R:List aW} {L:List (Nat×Obj)} {p b id:Nat} {st:af.Store} {t:af.Pt} {a:rT} {y:af.dm}
theorem Yj {α:Type} [DecidableEq α] (s g m l sn:α) (X S1 S2 R:List α):(s::(g::m::l::(X++(S1++sn::S2))++R)).Perm (sn::s::(g::m::l::(X++(S1++S2))++R)):=by exact LN
theorem Yk {α:Type} [DecidableEq α] (s o:α) (A RR:List α):(A++(s::o::RR)).Perm (o::(A++(s::RR))):=by rw [Bk];intro x;simp only [List.count_cons,List.count_append];omega
theorem Yl {α:Type} [DecidableEq α] (s g m l sn:α) (A X S1 S2 R:List α):(sn::(A++(s::(g::m::l::(X++(S1++S2))++R)))).Perm (A++(s::(g::m::l::(X++(S1++sn::S2))++R))):=by exact LN
theorem Hr {l1 l2:List (Nat×af.dm)} {y':af.dm} (hn:((l1++(id,y)::l2).map (·.1)).Nodup):af.lN (l1++(id,y)::l2) id y'=l1++(id,y')::l2:=by
 rw [dc,jQ] at hn;have h1:=(List.nodup_append.1 hn).2.2;have h2:=(List.nodup_cons.1 (List.nodup_append.1 hn).2.1).1;unfold af.lN;rw [dc,jQ];congr 1
 ·refine (tD fun x hx=>?_).trans (List.map_id _);have:x.1≠id:=h1 x.1 (mG (f:=(·.1)) hx) id (dN ..);have e:(x.1==id)=false:=c98;simp [e]
 ·congr 1
  ·simp
  ·refine (tD fun x hx=>?_).trans (List.map_id _);have:x.1≠id:=fun e=>h2 (e▸mG (f:=(·.1)) hx);have e:(x.1==id)=false:=c98;simp [e]
theorem fV (h:NF S w0 W (ah p st::(cS a p t++R)) L):(t.live.map (·.1)).Nodup:=by
 have:=(h.kY (mb:=a.lb) (l:=cu a.la t.live) AO).1.1
 unfold cu at this
 rw [List.map_map] at this
 exact this
theorem rJ (hin:(id,y)∈t.live) (h:NF S w0 W (ah p st::(cS a p t++R)) L):∃ (q:Option Addr) (ol oc:Nat) (RR:List aW),NF S w0 W (ah p st::J9 (.slice q ol oc) y.old::RR) ((a.la id,cl (dV p y (.slice q ol oc)) 187)::L) ∧
 ∀ (A:List aW) (w':World) (st':af.Store) (y':af.dm) (L':List (Nat×Obj)),y'.old=y.old→NF S w0 w' (A++(ah p st'::J9 (.slice q ol oc) y'.old::RR)) ((a.la id,cl (dV p y' (.slice q ol oc)) 187)::L')→NF S w0 w' (A++(ah p st'::(cS a p {t with live:=af.lN t.live id y'}++R))) L':=by
 have hn:=fV h
 obtain ⟨l1,l2,hl⟩:=List.append_of_mem hin
 haveI:DecidableEq aW:=fun _ _=>Classical.propDecidable _
 have h0:=h
 unfold cS at h
 have hm:(t.live.map fun (x:Nat×af.dm)=>dA p (a.la x.1) x.2)=(l1.map fun (x:Nat×af.dm)=>dA p (a.la x.1) x.2)++dA p (a.la id) y::(l2.map fun (x:Nat×af.dm)=>dA p (a.la x.1) x.2):=by rw [hl,dc,jQ]
 rw [hm] at h
 have h1:=h.bP (Yj _ _ _ _ _ _ _ _ _)
 obtain ⟨ov,h1⟩:=h1.exO
 obtain ⟨⟨q,ol,oc,rfl⟩,h1⟩:=h1.IX
 have h2:=h1.op
 simp only [bQ,bG] at h2
 refine ⟨q,ol,oc,_,h2.bP (List.Perm.swap _ _ _),fun A w' st' y' L' ho h'=>?_⟩
 have h3:=h'.bP (Yk _ _ _ _)
 have h4:NF S w0 w' (dA p (a.la id) y'::_) L':=NF.Vr (r:=fun ov:Value=>wj (isSlice ov) (comp [J9 ov y'.old] [(a.la id,cl (dV p y' ov) 187)])) (.slice q ol oc) (NF.Bu ⟨_,_,_,rfl⟩ (NF.shut (R1:=[J9 (.slice q ol oc) y'.old]) (L1:=[(a.la id,cl (dV p y' (.slice q ol oc)) 187)]) h3))
 have h5:=h4.bP (Yl _ _ _ _ _ _ _ _ _ _)
 have hs:af.lN t.live id y'=l1++(id,y')::l2:=by rw [hl] at hn ⊢;exact Hr hn
 have hlv:cu a.la (af.lN t.live id y')=cu a.la t.live:=by rw [hs,hl];simp [cu]
 have hm':((af.lN t.live id y').map fun (x:Nat×af.dm)=>dA p (a.la x.1) x.2)=(l1.map fun (x:Nat×af.dm)=>dA p (a.la x.1) x.2)++dA p (a.la id) y'::(l2.map fun (x:Nat×af.dm)=>dA p (a.la x.1) x.2):=by rw [hs,dc,jQ]
 unfold cS
 simp only
 rw [hm',hlv]
 exact h5
theorem O2 {w:Nat} (ha:a.ok t) (hw:w<t.aj.length) (h:NF S w0 W (ah p st::(cS a p t++R)) L):∃ (k q:Nat) (pl:af.aP) (sl:af.aS),a.pa[w]?=some k∧t.aO[w]?=some pl∧t.slots[w]?=some sl∧pl.Ok ∧
 NF S w0 W (dB q pl::ah p st::((bB a t).eraseIdx w++iN a p t R)) ((k,cl (dD q sl) 109)::L) ∧
 ∀ (A:List aW) (w':World) (st':af.Store) (yw:af.aP) (sl':af.aS) (a':rT) (t':af.Pt) (R':List aW) (L':List (Nat×Obj)),yw.Ok→a'.pa=a.pa→t'.aO=t.aO.set w yw→t'.slots=t.slots.set w sl' →
  NF S w0 w' (A++(dB q yw::ah p st'::((bB a t).eraseIdx w++iN a' p t' R'))) ((k,cl (dD q sl') 109)::L')→NF S w0 w' (A++(ah p st'::(cS a' p t'++R'))) L':=by
 have hk:w<a.pa.length:=by rw [ha.pa];exact hw
 have hp:w<t.aO.length:=by rw [ha.aO];exact hw
 have hs:w<t.slots.length:=by rw [ha.slots];exact hw
 have hz:(bB a t)[w]?=some (dF a.pa[w] (t.aO[w],t.slots[w])):=by exact Z7
 obtain ⟨hlt,hze⟩:=List.getElem?_eq_some_iff.1 hz
 have T8:(bB a t).Perm (dF a.pa[w] (t.aO[w],t.slots[w])::(bB a t).eraseIdx w):=by
  have:=(mI (bB a t) w hlt).symm
  rwa [hze] at this
 have h1:=h.bP (R':=dF a.pa[w] (t.aO[w],t.slots[w])::ah p st::((bB a t).eraseIdx w++iN a p t R)) ((List.Perm.cons _ (rX.trans (T8.append_right _))).trans (List.Perm.swap _ _ _))
 obtain ⟨q,h1⟩:=h1.exO
 obtain ⟨hok,h1⟩:=h1.IX
 have h2:=h1.op
 simp only [bQ,bG] at h2
 refine ⟨a.pa[w],q,t.aO[w],t.slots[w],lz hk,lz hp,lz hs,hok,h2,fun A w' st' yw sl' a' t' R' L' T6 e1 e2 e3 h'=>?_⟩
 have h3:NF S w0 w' (dB q yw::(A++(ah p st'::((bB a t).eraseIdx w++iN a' p t' R')))) ((a.pa[w],cl (dD q sl') 109)::L'):=h'.bP tE
 have h4:NF S w0 w' (dF a.pa[w] (yw,sl')::(A++(ah p st'::((bB a t).eraseIdx w++iN a' p t' R')))) L':=NF.Vr (r:=fun q=>wj yw.Ok (comp [dB q yw] [(a.pa[w],cl (dD q sl') 109)])) q (NF.Bu T6 (NF.shut (R1:=[dB q yw]) (L1:=[(a.pa[w],cl (dD q sl') 109)]) h3))
 have Hh:bB a' t'=(bB a t).set w (dF a.pa[w] (yw,sl')):=by exact Z9
 have her:(bB a' t').eraseIdx w=(bB a t).eraseIdx w:=by rw [Hh,List.eraseIdx_set_eq]
 have JP:(bB a' t')[w]?=some (dF a.pa[w] (yw,sl')):=by rw [Hh,List.getElem?_set_self hlt]
 obtain ⟨hlt',hze'⟩:=List.getElem?_eq_some_iff.1 JP
 have Kr:(bB a' t').Perm (dF a.pa[w] (yw,sl')::(bB a t).eraseIdx w):=by
  have:=(mI (bB a' t') w hlt').symm
  rwa [hze',her] at this
 refine h4.bP ?_
 refine (tE (l₁:=A)).symm.trans (iZ A ((List.Perm.swap _ _ _).trans (List.Perm.cons _ ?_)))
 rw [←bQ]
 exact (Kr.symm.append_right _).trans rX.symm
theorem Um (ha:a.ok t) (h:NF S w0 W (ah p st::(cS a p t++R)) L) (hq:(a.rq,Obj.cells a.kq 110 (0,0))∈L):uh W a.rq a.pa∧ig W a.pa t.slots:=by refine ⟨⟨a.kq,h.lD hq,ha.kq⟩,by rw [ha.pa,ha.slots],fun j hj=>?_⟩;exact OL
theorem C7 (hn:(t.live.map (·.1)).Nodup) (hin:(id,y)∈t.live):({t with live:=af.lN t.live id y}:af.Pt)=t:=by
 obtain ⟨l1,l2,hl⟩:=List.append_of_mem hin;have:af.lN t.live id y=t.live:=by rw [hl] at hn ⊢;exact Hr hn
 rw [this]
theorem Ym (hn:(t.live.map (·.1)).Nodup) (hin:(id,y)∈t.live) (y':af.dm):(id,y')∈af.lN t.live id y':=by unfold af.lN;exact List.mem_map.2 ⟨(id,y),hin,aH⟩
end
end Go.Proofs.N0
namespace Go.Proofs.N0
open Go.RowKit Go.Maps Go.ChangeMaps
variable {id ep nn:Nat} {y:af.dm} {m:af.bJ} {bW d0 d1 c1:Int}
theorem xk (w:World):(zeroValue 96).run Tryz.prog w=.ok (.pointer none) w:=aI
theorem Un (a b c d:Int) (w:World):(Instr.field 113 (.agg #[vI a,vI b,vI c,vI d]) 0).run Tryz.prog w=.ok (vI a) w:=aI
section
variable {S:List Nat} {w0 W:World} {p b w:Nat} {L:List (Nat×Obj)} {R:List aW} {t:af.Pt} {st bO:af.Store}
theorem Mk {la:Nat→Nat} {l:List (Nat×af.dm)} (h:∀ x∈l,x.1≠id):∀ x∈cu la l,x.1≠id:=fun x hx=>by obtain ⟨y,hy,rfl⟩:=List.mem_map.1 hx;exact h y hy
theorem AY {la:Nat→Nat} {l:List (Nat×af.dm)} (h:(id,y)∈l):(id,Value.pointer (some ⟨la id,0,none⟩))∈cu la l:=List.mem_map.2 ⟨(id,y),h,rfl⟩
theorem O3 {now:Nat} (h:NF S w0 W (ah p st::bK p b t::R) L) (hm:m.Wf) (hto:m.v 2=(id:Int)) (Ml:m.v 11=(ep:Int)) (hnn:m.v 12=(nn:Int)) (hc1:m.v 9=c1) (hno:∀ x∈t.live,x.1≠id) :
 Calls Tryz.prog 87 #[vP b 0,eY m bW now d0 d1] W (cI S w0 R L p b st t af.nJ 5):=by
 obtain ⟨a,ha,hw,h⟩:=cx h
 have lu:id<18446744073709551616:=by have:=(hm.pT 2 (by simp)).2;omega
 have qb:=fV h
 have hma:=h.kY (mb:=a.lb) (l:=cu a.la t.live) AO
 unfold cN iz at h
 simp only [bQ,bG] at h
 unfold eY
 first|rw [hto,Ml,hnn,hc1]|(unfold kj;rw [hto,Ml,hnn,hc1])
 have F0:=Hi ((h.alloc (cl #[vI (m.v 0),vU (m.v 1),vU (id:Nat),vS m.offer,vI (m.v 4),vI (m.v 5),vI (m.v 6),vI (m.v 7),vI (m.v 8),vI c1,vI (m.v 10),vU (ep:Nat),vU (nn:Nat),vI bW,vU now,vI d0,vI d1] 127)).alloc (cl (dK) 35))
 simp only [World.size_alloc] at F0
 have lk:∀ z:Later W,(Instr.lookup 78 (.map (some a.lb)) (vU (id:Nat)) true).run Tryz.prog z.world=.ok (.tuple #[.pointer none,.bool false]) z.world:=fun z=>(hma.later z.below).EK Tryz.underlying78 xk lu (Mk hno)
 obtain ⟨HA,HW,HM,Hs⟩:=hi4 ha hw hm qb
 clear hno
 clear h ha hw hm lu hma qb hto Ml hnn hc1
 have r:=rl F0.out.mem.rules
 go_enter Tryz.func87,Tryz.ntmps87
 go_wp2_with fail
 clear r
 have rq:=rl F0.out.mem.ei
 have lk2:∀ z:Later ((W.alloc (cl #[vI (m.v 0),vU (m.v 1),vU (id:Nat),vS m.offer,vI (m.v 4),vI (m.v 5),vI (m.v 6),vI (m.v 7),vI (m.v 8),vI c1,vI (m.v 10),vU (ep:Nat),vU (nn:Nat),vI bW,vU now,vI d0,vI d1] 127)).alloc (cl (dK) 35)),(Instr.lookup 78 (.map (some a.lb)) (vU (id:Nat)) true).run Tryz.prog z.world=.ok (.tuple #[.pointer none,.bool false]) z.world:=fun z=>lk ⟨z.world,(((Below.refl _ W).alloc (cC _) _).alloc aH _).trans (z.below.mono EP)⟩
 clear lk
 refine ay aI aI ?_
 repeat go_big_quiet_step (fail)
 refine wpQuiet_nil ?_
 rintro ⟨w1,hb⟩
 change Exit.then _ _ _ _ w1
 have F1:=Hi (F0.out.later hb)
 clear hb rq F0 lk2
 have r:=rl F1.out.mem.rules
 have F2:=Hi (F1.out.ou (B:=[]) (vI 0) (.string ⟨#[]⟩) (.bool false) (vI 0) (.slice none 0 0) (vI 0))
 simp only [bG] at F2
 have r2:=rl F2.out.mem.rules
 have F3:=Hi (F2.out.sub (zq _ _)|>.sub (zq _ _))
 go_wp2_with fail
 exact bodyPost_ret (v:=.tuple #[.agg (dK),vI 5]) c987 rfl (cI.none rfl (fP HA.out HW.out F3.out))
theorem Uo {now:Nat} (h:NF S w0 W (ah p st::bK p b t::R) L) (hm:m.Wf) (hto:m.v 2=(id:Int)) (Ml:m.v 11=(ep:Int)) (hnn:m.v 12=(nn:Int)) (hc1:m.v 9=c1) (hin:(id,y)∈t.live) (hee:y.fX.aF=(ep:Int)) (heb:ep<1000000) (hnb:nn<256) (hc:st.has c1=true) (ho:y.w.can nn=false) :
 Calls Tryz.prog 87 #[vP b 0,eY m bW now d0 d1] W (cI S w0 R L p b st t af.nJ 12):=by
 obtain ⟨a,ha,hw,h⟩:=cx h
 have lu:id<18446744073709551616:=by have:=(hm.pT 2 (by simp)).2;omega
 have qb:=fV h
 have hma:=h.kY (mb:=a.lb) (l:=cu a.la t.live) AO
 unfold cN iz at h
 simp only [bQ,bG] at h
 unfold eY
 first|rw [hto,Ml,hnn,hc1]|(unfold kj;rw [hto,Ml,hnn,hc1])
 have F0:=Hi ((h.alloc (cl #[vI (m.v 0),vU (m.v 1),vU (id:Nat),vS m.offer,vI (m.v 4),vI (m.v 5),vI (m.v 6),vI (m.v 7),vI (m.v 8),vI c1,vI (m.v 10),vU (ep:Nat),vU (nn:Nat),vI bW,vU now,vI d0,vI d1] 127)).alloc (cl (dK) 35))
 simp only [World.size_alloc] at F0
 have lk:∀ z:Later W,(Instr.lookup 78 (.map (some a.lb)) (vU (id:Nat)) true).run Tryz.prog z.world=.ok (.tuple #[vP (a.la id) 0,.bool true]) z.world:=fun z=>(hma.later z.below).look Tryz.underlying78 xk (AY hin)
 obtain ⟨HA,HW,HM,Hs⟩:=hi4 ha hw hm qb
 have hw1:IntKind.i64.wrap (ep:Int)=(ep:Int):=IntWalk.i64_in _ ax
 have hw2:IntKind.i64.wrap (nn:Int)=(nn:Int):=IntWalk.i64_in _ ax
 have Ku:=hw.live _ hin
 obtain ⟨ox,HEE,HYW,XI,HC,HO⟩:=Vn hin hee Ku hnb hc ho
 clear hin hee Ku hnb hc ho heb
 clear h ha hw hm lu hma qb hto Ml hnn hc1
 have r:=rl F0.out.mem.rules
 go_enter Tryz.func87,Tryz.ntmps87
 go_wp2_with fail
 clear r
 have rq:=rl F0.out.mem.ei
 have lk2:∀ z:Later ((W.alloc (cl #[vI (m.v 0),vU (m.v 1),vU (id:Nat),vS m.offer,vI (m.v 4),vI (m.v 5),vI (m.v 6),vI (m.v 7),vI (m.v 8),vI c1,vI (m.v 10),vU (ep:Nat),vU (nn:Nat),vI bW,vU now,vI d0,vI d1] 127)).alloc (cl (dK) 35)),(Instr.lookup 78 (.map (some a.lb)) (vU (id:Nat)) true).run Tryz.prog z.world=.ok (.tuple #[vP (a.la id) 0,.bool true]) z.world:=fun z=>lk ⟨z.world,(((Below.refl _ W).alloc (cC _) _).alloc aH _).trans (z.below.mono EP)⟩
 clear lk
 refine ay aI aI ?_
 repeat go_big_quiet_step (fail)
 refine wpQuiet_nil ?_
 rintro ⟨w1,hb⟩
 change Exit.then _ _ _ _ w1
 have F1:=Hi (F0.out.later hb)
 clear hb rq F0 lk2
 obtain ⟨q,ol,oc,RR,g,hback⟩:=rJ ox.out F1.out
 have CO:=Hi (Ta (k:=0) (b2:=0) (bO:=st) (s:=[]) g HYW.out.2.1 HYW.out.2.2.2.1 XI.out HYW.out.2.2.2.2.1 HC.out HO.out)
 rw [HEE.out] at CO
 have mZ:=Hi hback
 clear g hback
 have r:=rl F1.out.mem.rules
 go_wp2_with fail
 clear r
 refine CO.out.mono ?_
 rintro e w2 ⟨rfl,g⟩
 have g2:=mZ.out [] w2 st y _ rfl g
 rw [C7 Hs.out ox.out] at g2
 have F2:=Hi g2
 have F3:=Hi (g2.ou (B:=[]) (vI 0) (.string ⟨#[]⟩) (.bool false) (vI 0) (.slice none 0 0) (vI 0))
 simp only [bG] at F2 F3
 clear g g2 CO F1
 have r:=rl F2.out.mem.rules
 have r2:=rl F3.out.mem.rules
 have F4:=Hi (F3.out.sub (zq _ _)|>.sub (zq _ _))
 go_wp2_with fail
 exact bodyPost_ret (v:=.tuple #[.agg (dK),vI 12]) c987 rfl (cI.none rfl (fP HA.out HW.out F4.out))
theorem Yn {now:Nat} (h:NF S w0 W (ah p st::bK p b t::R) L) (hm:m.Wf) (hto:m.v 2=(id:Int)) (Ml:m.v 11=(ep:Int)) (hnn:m.v 12=(nn:Int)) (hc1:m.v 9=c1) (hin:(id,y)∈t.live) (hee:y.fX.aF=(ep:Int)) (heb:ep<1000000) (hnb:nn<256) (hc:st.has c1=true) {b2 k1 wi:Nat} {s:List UInt8} (hx:y.w.next≤nn) (hx2:nn+1 - y.w.next<64) (hx3:((y.w.bits <<< (nn+1 - y.w.next)) % 18446744073709551616) ||| 1=b2) (hf:af.kg st y.fX=(bO,k1,0)) (Qa:af.oo bO k1 nn y.x.h c1=(s,0)) (hwh:t.whose id=some wi) (hwf:({t with live:=af.lN t.live id {y with w:=⟨nn+1,b2⟩},slots:=t.slots.set wi ((t.slots.getD wi af.eL).heard id)}:af.Pt).Wf) :
 Calls Tryz.prog 87 #[vP b 0,eY m bW now d0 d1] W (cI S w0 R L p b bO {t with live:=af.lN t.live id {y with w:=⟨nn+1,b2⟩},slots:=t.slots.set wi ((t.slots.getD wi af.eL).heard id)} ⟨(wi:Int),s,true,y.x.h,[],0⟩ 0):=by
 obtain ⟨a,ha,hw,h⟩:=cx h
 have lu:id<18446744073709551616:=by have:=(hm.pT 2 (by simp)).2;omega
 have qb:=fV h
 have hma:=h.kY (mb:=a.lb) (l:=cu a.la t.live) AO
 unfold cN iz at h
 simp only [bQ,bG] at h
 unfold eY
 first|rw [hto,Ml,hnn,hc1]|(unfold kj;rw [hto,Ml,hnn,hc1])
 have F0:=Hi ((h.alloc (cl #[vI (m.v 0),vU (m.v 1),vU (id:Nat),vS m.offer,vI (m.v 4),vI (m.v 5),vI (m.v 6),vI (m.v 7),vI (m.v 8),vI c1,vI (m.v 10),vU (ep:Nat),vU (nn:Nat),vI bW,vU now,vI d0,vI d1] 127)).alloc (cl (dK) 35))
 simp only [World.size_alloc] at F0
 have lk:∀ z:Later W,(Instr.lookup 78 (.map (some a.lb)) (vU (id:Nat)) true).run Tryz.prog z.world=.ok (.tuple #[vP (a.la id) 0,.bool true]) z.world:=fun z=>(hma.later z.below).look Tryz.underlying78 xk (AY hin)
 obtain ⟨HA,HW,HM,Hs⟩:=hi4 ha hw hm qb
 have hw1:IntKind.i64.wrap (ep:Int)=(ep:Int):=IntWalk.i64_in _ ax
 have hw2:IntKind.i64.wrap (nn:Int)=(nn:Int):=IntWalk.i64_in _ ax
 have Ku:=hw.live _ hin
 obtain ⟨ox,HEE,HYW,XI,HC⟩:=vT hin hee Ku hnb hc
 obtain ⟨HX,PY,VA,HF,HAR,HWH,tR,HKQ,Ez⟩:=hi9 hx hx2 hx3 hf Qa hwh hwf ha.kq lu
 have hwl:wi<t.aj.length:=by rw [←ha.slots];exact (List.findIdx?_eq_some_iff_getElem.1 hwh).1
 have rI:=Hi hwl
 clear hin hee Ku hnb hc heb hx hx2 hx3 hf Qa hwh hwf hwl
 clear h ha hw hm lu hma qb hto Ml hnn hc1
 have r:=rl F0.out.mem.rules
 go_enter Tryz.func87,Tryz.ntmps87
 go_wp2_with fail
 clear r
 have rq:=rl F0.out.mem.ei
 have lk2:∀ z:Later ((W.alloc (cl #[vI (m.v 0),vU (m.v 1),vU (id:Nat),vS m.offer,vI (m.v 4),vI (m.v 5),vI (m.v 6),vI (m.v 7),vI (m.v 8),vI c1,vI (m.v 10),vU (ep:Nat),vU (nn:Nat),vI bW,vU now,vI d0,vI d1] 127)).alloc (cl (dK) 35)),(Instr.lookup 78 (.map (some a.lb)) (vU (id:Nat)) true).run Tryz.prog z.world=.ok (.tuple #[vP (a.la id) 0,.bool true]) z.world:=fun z=>lk ⟨z.world,(((Below.refl _ W).alloc (cC _) _).alloc aH _).trans (z.below.mono EP)⟩
 clear lk
 refine ay aI aI ?_
 repeat go_big_quiet_step (fail)
 refine wpQuiet_nil ?_
 rintro ⟨w1,hb⟩
 change Exit.then _ _ _ _ w1
 have F1:=Hi (F0.out.later hb)
 clear hb rq F0 lk2
 obtain ⟨q,ol,oc,RR,g,hback⟩:=rJ ox.out F1.out
 have CO:=Hi (Xv g HYW.out.2.1 HYW.out.2.2.2.1 XI.out HYW.out.2.2.2.2.1 HC.out HX.out PY.out VA.out HF.out HAR.out)
 rw [HEE.out] at CO
 have mZ:=Hi hback
 clear g hback
 have r:=rl F1.out.mem.rules
 go_wp2_with fail
 clear r
 refine CO.out.mono ?_
 rintro e w2 ⟨rfl,g⟩
 have g2:=mZ.out [] w2 bO {y with w:=⟨nn+1,b2⟩} _ rfl g
 obtain ⟨y2,hy2⟩:∃ y2,y2=({y with w:=⟨nn+1,b2⟩}:af.dm):=⟨_,rfl⟩
 rw [←hy2] at g2
 obtain ⟨t2,gj⟩:∃ t2,t2=({t with live:=af.lN t.live id y2}:af.Pt):=⟨_,rfl⟩
 rw [←gj] at g2
 obtain ⟨Vy,wV⟩:=hi2 hy2 gj
 have Hq:a.ok t2:=c988
 have uf:=Hi Hq
 have F2:Hid (NF S w0 w2 (ah p bO::(cS a p t2++R)) ((W.heap.size+1,cl (dK) 35)::(W.heap.size,cl #[vI (m.v 0),vU (m.v 1),vU (id:Nat),vS m.offer,vI (m.v 4),vI (m.v 5),vI (m.v 6),vI (m.v 7),vI (m.v 8),vI c1,vI (m.v 10),vU (ep:Nat),vU (nn:Nat),vI bW,vU now,vI d0,vI d1] 127)::(b,cl (iz a p t2) 80)::(a.rp,cl a.kp 65)::(a.rq,cl a.kq 110)::L)):=Hi (by
  rw [wV.out] at g2 ⊢
  exact g2)
 have hrow:=Um Hq F2.out aH
 have WH:=Hi (OQ (p:=p) (a:=a) (t:=t2) (id:=id) (o:=some wi) (F2.out.lD (x:=(b,_)) aH) hrow.1 hrow.2 (by rw [←Hq.slots]) c982 (by rw [gj];exact HWH.out))
 clear g g2 CO F1 hrow Hq hy2 gj mZ
 have F2b:Hid (NF S w0 w2 (ah p bO::(cS a p t2++R)) ((W.heap.size+1,cl (dK) 35)::(W.heap.size,cl #[vI (m.v 0),vU (m.v 1),vU (id:Nat),vS m.offer,vI (m.v 4),vI (m.v 5),vI (m.v 6),vI (m.v 7),vI (m.v 8),vI c1,vI (m.v 10),vU (ep:Nat),vU (nn:Nat),vI bW,vU now,vI d0,vI d1] 127)::(b,cl (jt p a t) 80)::(a.rp,cl a.kp 65)::(a.rq,cl a.kq 110)::L)):=Hi (by
  have:=F2.out
  rw [wV.out] at this ⊢
  exact this)
 have r:=rl F2b.out.mem.rules
 go_wp2_with fail
 clear r
 refine WH.out.mono ?_
 rintro e w3 ⟨rfl,hb3⟩
 have F2c:=Hi (F2b.out.later hb3)
 clear hb3 WH F2 F2b
 obtain ⟨k,q2,pl,sl,hk,hpl,jN,hok,g,hback⟩:=O2 (w:=wi) uf.out (by rw [wV.out];exact rI.out) F2c.out
 obtain ⟨yP,pI⟩:∃ yP,yP=(bB a t2).eraseIdx wi++iN a p t2 R:=⟨_,rfl⟩
 rw [←pI] at g
 obtain ⟨qf,uj⟩:∃ qf,sl.heard id=qf:=⟨_,rfl⟩
 have CT:=Hi (fun W=>GG uj W)
 unfold oK at CT
 unfold dD at g
 have F3:=Hi (g.perm (L':=(k,cl (oI q2 sl) 109)::(W.heap.size+1,cl (dK) 35)::(W.heap.size,cl #[vI (m.v 0),vU (m.v 1),vU (id:Nat),vS m.offer,vI (m.v 4),vI (m.v 5),vI (m.v 6),vI (m.v 7),vI (m.v 8),vI c1,vI (m.v 10),vU (ep:Nat),vU (nn:Nat),vI bW,vU now,vI d0,vI d1] 127)::(b,cl (jt p a t) 80)::(a.rq,cl a.kq 110)::(a.rp,cl a.kp 65)::L) K3)
 obtain ⟨LS,Fb,Cn,jx,mZ,BL,XL⟩:=PL hk hpl jN hok hback pI uj
 clear g hk hpl jN hok hback pI uj F2c
 have hxi:G8 (some wi)=(wi:Int):=rfl
 rw [hxi]
 clear hxi
 go_wp2_with fail
 refine sk (n:=79) [23] [] (tb [vP b 0,vP b 0,vP b 10,vL a.rq 0 t.aj.length a.cq,vI (wi:Nat),vP a.rq wi,vP k 0,vP b 0,vP b 0,vP b 10,vL a.rq 0 t.aj.length a.cq,vI (wi:Nat),vP a.rq wi,vP k 0,vP k 0,vP k 1,some (.agg (E7 sl)),vP W.heap.size 0,vP W.heap.size 2,vU (id:Nat),some (.agg (E7 qf)),vP k 0,vP k 1]) [(W.heap.size+1,cl (dK) 35),(W.heap.size,cl #[vI (m.v 0),vU (m.v 1),vU (id:Nat),vS m.offer,vI (m.v 4),vI (m.v 5),vI (m.v 6),vI (m.v 7),vI (m.v 8),vI c1,vI (m.v 10),vU (ep:Nat),vU (nn:Nat),vI bW,vU now,vI d0,vI d1] 127),(b,cl (jt p a t) 80),(a.rq,cl a.kq 110)] ((a.rp,cl a.kp 65)::L) [([],dB q2 pl::ah p bO::yP,[(k,cl (oI q2 sl) 109)]),
  ([],dB q2 pl::ah p bO::yP,[(k,cl (oI q2 qf) 109)])] (F3.out) ⟨sP,sP,sP,sP,sP,?_,?_,sP,sP,sP,sP,sP,?_,?_,sP,sP,sT ((k,cl (oI q2 sl) 109)::[]) 0,sP,sP,sP,?_,sP,sP,QJ,trivial⟩ ?_
 ·exact YK
 ·exact PA
 ·exact YK
 ·exact PA
 ·refine sQ ?_;intro v x hM hE;refine qA ?_;go_big_quiet_step ((go_at_call 127;exact Calls.later (CT.out _)));exact aao
 ·intro v qq x hF hA h;simp only [SC] at h;have F4:=Hi h;simp only [PU,bF,Nat.reduceAdd];clear hF hA h;clear F3;have g1:=mZ.out [] x bO pl qf a {t2 with slots:=t2.slots.set wi qf} R _ jx.out rfl (ld Fb.out).symm rfl (by have:=F4.out;rw [BL.out] at this;exact this);obtain ⟨t3,Bj⟩:∃ t3,t3=({t2 with slots:=t2.slots.set wi qf}:af.Pt):=⟨_,rfl⟩
  rw [←Bj] at g1;have HT3:=Hi Bj;have hin3:(id,y2)∈t3.live:=by rw [Bj,wV.out];exact Ym Hs.out ox.out y2
  have hnd3:=fV g1;obtain ⟨q3,ol3,oc3,Uf,g2,Uq⟩:=rJ hin3 g1;have CO:=Hi (g2.sOf (x:=y.x) (by rw [Vy.out]));unfold mW at CO;obtain ⟨HBK3,HIN3,HND3⟩:=ju Uq hin3 hnd3;clear g1 g2 Bj hin3 hnd3 Uq mZ F4;go_wp2_with fail;refine CO.out.mono ?_;rintro e w6 ⟨rfl,g⟩;have g2:=HBK3.out [] w6 bO y2 _ rfl g;rw [C7 HND3.out HIN3.out] at g2;have F5:=Hi (g2.perm (L':=(W.heap.size+1,cl (dK) 35)::(W.heap.size,cl #[vI (m.v 0),vU (m.v 1),vU (id:Nat),vS m.offer,vI (m.v 4),vI (m.v 5),vI (m.v 6),vI (m.v 7),vI (m.v 8),vI c1,vI (m.v 10),vU (ep:Nat),vU (nn:Nat),vI bW,vU now,vI d0,vI d1] 127)::(b,cl (jt p a t) 80)::(a.rp,cl a.kp 65)::(a.rq,cl a.kq 110)::L) K3);have F6:=Hi (F5.out.ou (B:=[]) (vI (wi:Nat)) (vS s) (.bool true) (vI y.x.h) (.slice none 0 0) (vI 0));simp only [bG] at F6;clear g g2 CO;have r:=rl F5.out.mem.rules;have r2:=rl F6.out.mem.rules;have F7:=Hi (F6.out.sub (zq _ _)|>.sub (zq _ _));have Bj:t3={ t with live:=af.lN t.live id {y with w:=⟨nn+1,b2⟩},slots:=t.slots.set wi ((t.slots.getD wi af.eL).heard id)}:=by
   have hs:t.slots[wi]?=some sl:=by have:=Cn.out;rw [wV.out] at this;exact this
   rw [HT3.out,wV.out,Vy.out,←XL.out,ux,hs,uy]
  have HF:=Hi (fP (a:=a) (t:=t3) (p:=p) (b:=b) (st:=bO) (R:=R) (L:=L) (by rw [HT3.out,wV.out];exact ⟨HA.out.cp,HA.out.cq,HA.out.kp,HA.out.kq,HA.out.pa,HA.out.aO,by simp only [List.length_set];exact HA.out.slots⟩) (by rw [Bj];exact tR.out) (by have:=F7.out;rw [HT3.out,wV.out] at this ⊢;exact this));rw [Bj] at HF;have fh:=Un y.x.h y.x.send y.x.recv y.x.version;clear Bj;go_wp2_with fail;exact bodyPost_ret (v:=.tuple #[.agg (eM (wi:Nat) s true y.x.h (.slice none 0 0) 0),vI 0]) c987 rfl (cI.none rfl HF.out)
end
end Go.Proofs.N0
namespace Go.Proofs.N0
open Go.RowKit Go.Maps Go.ChangeMaps
variable {tm:Nat}
def fnI:Value:=.func (.func 84) #[] #[]
def fnR:Value:=.func (.func 85) #[] #[]
def fnJ:Value:=.func (.func 86) #[] #[]
def fnD:Value:=.func (.func 87) #[] #[]
def funD:DataW Value:=(((DataW.map []).put (dy 1) (.held fnI)).put (dy 2) (.held fnR)).put (dy 3) (.held fnJ)|>.put (dy 4) (.held fnD)
def pQ (w:World) (tm:Nat):Prop:=w.ownsMap Tryz.prog 3 cK tm 4 funD
def Kv (tm:Nat):aW where
 holds S w:=S=[tm]∧pQ w tm
 same:=by rintro S w w' ⟨rfl,h⟩ hs;exact ⟨rfl,h.same (hs tm (ud _))⟩
 lt:=by rintro S w ⟨rfl,h⟩ i hi;rw [rZ] at hi;subst hi;exact h.lt
section
variable {S:List Nat} {w0 W:World} {L:List (Nat×Obj)} {R:List aW}
theorem O4 (W:World):Calls Tryz.prog 39 #[] W fun e w'=>∃ tm,e=.returned (.map (some tm))∧pQ w' tm∧W.heap.size≤tm∧Below W.heap.size W w':=by have hmm:=@run_makeMap Tryz.prog;go_enter Tryz.func39,Tryz.ntmps39;go_wp2_with fail;have h0:(W.alloc (.map #[] 0)).ownsMap Tryz.prog 3 cK W.heap.size 0 (.map []):=World.ownsMap_made W Tryz.prog 3 cK;have b0:Below W.heap.size W (W.alloc (.map #[] 0)):=(Below.refl _ _).alloc (cC _) _;obtain ⟨w1,hrun1,h1,g1⟩:=h0.update BI Tryz.underlying124 KY (show keyOf Tryz.prog 3 (vI 1)=some (dy 1) from ru (i:=1) ax) (show cK fnI=some (.held fnI,[]) from rfl);have b1:=b0.grown g1 b0.size (fun k e=>Yd);have tN:=Hi hrun1;unfold fnI at tN;clear hrun1 g1;rw [tN.out];go_wp2_with fail;obtain ⟨w2,hrun2,h2,g2⟩:=h1.update BI Tryz.underlying124 KY (show keyOf Tryz.prog 3 (vI 2)=some (dy 2) from ru (i:=2) ax) (show cK fnR=some (.held fnR,[]) from rfl);have b2:=b1.grown g2 b1.size (fun k e=>Yd);have oJ:=Hi hrun2;unfold fnR at oJ;clear hrun2 g2;rw [oJ.out];go_wp2_with fail;obtain ⟨w3,hrun3,h3,g3⟩:=h2.update BI Tryz.underlying124 KY (show keyOf Tryz.prog 3 (vI 3)=some (dy 3) from ru (i:=3) ax) (show cK fnJ=some (.held fnJ,[]) from rfl);have b3:=b2.grown g3 b2.size (fun k e=>Yd);have uq:=Hi hrun3;unfold fnJ at uq;clear hrun3 g3;rw [uq.out];go_wp2_with fail;obtain ⟨w4,Cx,h4,g4⟩:=h3.update BI Tryz.underlying124 KY (show keyOf Tryz.prog 3 (vI 4)=some (dy 4) from ru (i:=4) ax) (show cK fnD=some (.held fnD,[]) from rfl);have b4:=b3.grown g4 b3.size (fun k e=>Yd);have ur:=Hi Cx;unfold fnD at ur;clear Cx g4;rw [ur.out];go_wp2_with fail;go_ret;exact ⟨W.heap.size,rfl,h4,cC _,b4⟩
theorem Ur (h:NF S w0 W R L):Calls Tryz.prog 39 #[] W fun e w'=>∃ tm,e=.returned (.map (some tm))∧NF S w0 w' (Kv tm::R) L:=by refine (O4 W).mono ?_;rintro e w' ⟨tm,rfl,hf,hlt,hb⟩;exact ⟨tm,rfl,h.give (F:=[tm]) hb ⟨rfl,hf⟩ aH (fun i hi=>by rw [rZ] at hi;subst hi;exact hlt)⟩
theorem NF.funAt (h:NF S w0 W (Kv tm::R) L):pQ W tm:=by obtain ⟨f,hf,_⟩:=h.tell;exact hf.2
theorem zeroFn (w:World):(zeroValue 123).run Tryz.prog w=.ok .nilFunc w:=aI
def fnK:Nat→Value
 | 1=>fnI
 | 2=>fnR
 | 3=>fnJ
 | 4=>fnD
 | _=>.nilFunc
theorem pQ.look {w:World} {k:Nat} (h:pQ w tm) (h1:1≤k) (h4:k≤4):(Instr.lookup 124 (.map (some tm)) (vI k) false).run Tryz.prog w=.ok (fnK k) w:=by
 obtain ⟨v,ps,hrun,hv⟩:=World.ownsMap.lookup h BI Tryz.underlying124 (zeroFn w) (zd:=.held .nilFunc) (zp:=[]) rfl (ru (i:=k) ax);have ne:∀ {i j:Nat},i≠j→dy i≠dy j:=fun h e=>h (Aq e);have e0:funD.atKey (dy k) (.held .nilFunc)=.held (fnK k):=by
  unfold funD;have m0:IsMap (DataW.map []:DataW Value):=isMap_empty;have m1:=m0.put (dy 1) (.held fnI);have m2:=m1.put (dy 2) (.held fnR);have m3:=m2.put (dy 3) (.held fnJ);have hk:k=1∨k=2∨k=3∨k=4:=ax;rcases hk with rfl|rfl|rfl|rfl
  ·rw [atKey_put_other (ne ax),atKey_put_other (ne ax),atKey_put_other (ne ax),atKey_put_same m0 (wS _)];rfl
  ·rw [atKey_put_other (ne ax),atKey_put_other (ne ax),atKey_put_same m1 (wS _)];rfl
  ·rw [atKey_put_other (ne ax),atKey_put_same m2 (wS _)];rfl
  ·rw [atKey_put_same m3 (wS _)];rfl
 rw [e0] at hv;rw [hrun,DataW.held.inj (congrArg Prod.fst (Option.some.inj hv))]
end
end Go.Proofs.N0
namespace Go.Proofs.N0
open Go.RowKit Go.Maps Go.ChangeMaps
variable {w0 w:World} {b k:Nat} {m:af.bJ} {f:af.oa} {L:List (Nat×Obj)} {s:ByteArray} {kk:Int}
def Kw (w0:World) (b:Nat) (L:List (Nat×Obj)) (r:af.bJ×Nat×Nat) (e:Ending) (w':World):Prop :=
 e=.returned (.tuple #[vI r.2.1,vI r.2.2])∧Mem w0 ((b,cl (bR r.1) 82)::L) w'
theorem O5 (hM:Mem w0 ((b,cl (bR m) 82)::L) w) (hb:w0.heap.size≤b) (hL:∀ p∈L,p.1≠b) (h3:f.c=3) (hs:s.size≤maxLen) :
 Calls Tryz.prog 83 #[.agg (jT b f).toArray,.string s,vI k] w (Kw w0 b L (af.jV s.data.toList m k f)):=by
 have hr:af.jV s.data.toList m k f=(⟨m.v,(af.dP s.data.toList k 8).1⟩,(af.dP s.data.toList k 8).2.1,(af.dP s.data.toList k 8).2.2):=by unfold af.jV;rw [if_pos h3]
 rw [hr]
 obtain ⟨n,p,er,hg⟩:∃ n p er,af.get s.data.toList k=(n,p,er):=⟨_,_,_,rfl⟩
 have gb:=tU hg
 have CT:=Hi fun w=>OT (most:=8) hg w hs ax (by simpa using gb.1) gb.2
 generalize af.dP s.data.toList k 8=g at *
 clear hr hg gb hs
 unfold jT
 rw [if_pos h3]
 obtain ⟨M,HL,HB⟩:=ju hM hL hb
 have MA:Hid (Mem w0 _ (w.alloc (cl #[vU 0,vU 0,.pointer none,.pointer none,vP b 3] 213))):=Hi (hM.later ((Below.refl _ _).alloc (cC _) _))
 clear hM hL hb h3
 go_enter Tryz.func83,Tryz.ntmps83
 go_wp2_with fail
 have bx:=heap_alloc_new w (cl #[vU 0,vU 0,.pointer none,.pointer none,vP b 3] 213)
 generalize w.alloc (cl #[vU 0,vU 0,.pointer none,.pointer none,vP b 3] 213)=W at *
 refine (CT.out W).mono ?_
 rintro e w1 ⟨rfl,hb1⟩
 have M1:=Hi (MA.out.later hb1)
 have c4:=(zZ ((hb1.block _ (lt_of_block bx)).trans bx)).2.2.2.2
 have mt:=qM (M1.out.get 0 rfl)
 have oz:=oX (i:=3) (M1.out.get 0 rfl)
 have M2:=Hi (M1.out.set HB.out HL.out 3 (vS g.1))
 clear hb1 bx MA M CT
 go_wp2_with fail
 go_ret2
 exact ⟨rfl,M2.out⟩
theorem Us (hM:Mem w0 ((b,cl (bR m) 82)::L) w) (hb:w0.heap.size≤b) (hL:∀ p∈L,p.1≠b) (hf:f∈af.bk kk) (h3:f.c≠3) (hs:s.size≤maxLen) :
 Calls Tryz.prog 83 #[.agg (jT b f).toArray,.string s,vI k] w (Kw w0 b L (af.jV s.data.toList m k f)):=by
 obtain ⟨n,p,er,hg⟩:∃ n p er,af.get s.data.toList k=(n,p,er):=⟨_,_,_,rfl⟩
 have hr:af.jV s.data.toList m k f=if er=0∧4294967296<n then (m,p,3) else if er=0 then (⟨af.Dw m.v f.c n,m.offer⟩,p,0) else (m,p,er):=by unfold af.jV;rw [if_neg h3,hg]
 rw [hr]
 have CT:=Hi fun w=>eu hg w hs
 obtain ⟨c2,c3,em⟩:∃ c2 c3,jT b f=[vU f.lo,vU f.hi,.pointer c2,.pointer c3,.pointer none]:=Rx
 rw [em]
 have MA:Hid (Mem w0 _ (w.alloc (cl #[vU f.lo,vU f.hi,.pointer c2,.pointer c3,.pointer none] 213))):=Hi (hM.later ((Below.refl _ _).alloc (cC _) _))
 obtain ⟨HL,HB,HF,H3,HEM⟩:=vT hL hb hf h3 em
 clear hr hg hs hM hL hb hf h3 em
 by_cases he:er=0
 ·subst he;by_cases hn:4294967296<n
  ·have HN:=Hi hn;rw [if_pos ⟨rfl,hn⟩];exact XM
  ·rw [if_neg (fun h=>hn h.2),if_pos rfl];go_enter Tryz.func83,Tryz.ntmps83;go_wp2_with fail;have bx:=heap_alloc_new w (cl #[vU f.lo,vU f.hi,.pointer c2,.pointer c3,.pointer none] 213);generalize w.alloc (cl #[vU f.lo,vU f.hi,.pointer c2,.pointer c3,.pointer none] 213)=W at *;refine (CT.out W).mono ?_;rintro e w1 ⟨rfl,hb1⟩;have M1:=Hi (MA.out.later hb1);have rc:=zZ ((hb1.block _ (lt_of_block bx)).trans bx);have CS:=LH (b:=b) (f:=f) (x:=n) w1 H3.out (qL (M1.out.get 0 rfl) HF.out H3.out) (oX (M1.out.get 0 rfl)) ax;rw [HEM.out] at CS;have CS':=Hi CS;clear hb1 bx MA CT CS;go_wp2_with fail;refine CS'.out.mono ?_;rintro e w2 ⟨rfl,hb2⟩;have M2:Mem w0 _ w2:=(M1.out.set HB.out HL.out f.c (zS f.c n)).later (by rw [size_setCell];exact hb2);rw [show (bR m).setIfInBounds f.c (zS f.c n)=bR ⟨af.Dw m.v f.c n,m.offer⟩ from LJ HF.out H3.out] at M2;have M3:=Hi M2;clear M2 hb2 M1 rc CS';go_wp2_with fail;go_ret2;exact ⟨rfl,M3.out⟩
 ·rw [if_neg (fun h=>he h.1),if_neg he];exact XM
theorem Yo (hM:Mem w0 ((b,cl (bR m) 82)::L) w) (hb:w0.heap.size≤b) (hL:∀ p∈L,p.1≠b) (hf:f∈af.bk kk) (hs:s.size≤maxLen) :
 Calls Tryz.prog 83 #[.agg (jT b f).toArray,.string s,vI k] w (Kw w0 b L (af.jV s.data.toList m k f)):=by
 by_cases h3:f.c=3
 ·exact O5 hM hb hL h3 hs
 ·exact Us hM hb hL hf h3 hs
end Go.Proofs.N0
namespace af
variable {s:List UInt8} {k:Nat}
theorem Ht (s:List UInt8) (k most:Int):((dP s k most).1.length:Int)≤max 0 most:=by
 unfold dP;simp only;split
 ·simp;omega
 ·split
  ·simp;omega
  ·split
   ·simp;omega
   ·rename_i h _;simp only [fJ];omega
theorem Wf.set {m:bJ} (h:m.Wf) {f:oa} {n:Nat} (hn:n≤4294967296):bJ.Wf ⟨Dw m.v f.c n,m.offer⟩ :=
 ⟨fun c hc=>by
  have:=h.ints c hc
  simp only [Dw];split<;>omega,
  fun c hc=>by
   have:=h.pT c hc
   simp only [Dw];split<;>omega,h.text⟩
theorem Wf.read {m:bJ} (h:m.Wf) {f:oa}:(jV s m k f).1.Wf:=by
 unfold jV;split
 ·refine ⟨h.ints,h.pT,?_⟩
  have:=Ht s k 8
  show (dP s k 8).1.length≤_
  omega
 ·split
  ·exact h
  ·split
   ·rename_i h1 h2;exact Wf.set h ax
   ·exact h
theorem Wf.kind (hk:k≤4):(gA k).Wf :=
 ⟨fun c _=>by simp only [gA];split<;>omega,fun c _=>by simp only [gA];split<;>omega,by simp [gA]⟩
theorem ES {m:bJ} {i:Nat} {l:List oa} (hi:i<l.length):readAll s m k (l.drop i)=if (jV s m k l[i]).2.2=0 then readAll s (jV s m k l[i]).1 (jV s m k l[i]).2.1 (l.drop (i+1)) else jV s m k l[i]:=by rw [List.drop_eq_getElem_cons hi];rfl
end af
namespace Go.Proofs.N0
open Go.RowKit Go.Maps Go.ChangeMaps
def DecR (w:World) (s:List UInt8) (l:List af.oa) (r0:af.bJ×Nat×Nat) (b gm:Nat) (pv ev iv:Value) (wr:World):Prop :=
 ∃ (i p:Nat) (m:af.bJ),i≤l.length∧pv=vI p∧ev=vI 0∧iv=vI i∧m.Wf∧af.readAll s m p (l.drop i)=r0 ∧
  Mem w [(b,cl (bR m) 82),(gm,cl (nV b l) 213),(w.heap.size,cl (bR af.aQ) 82)] wr
def Ut (w:World) (r:af.bJ×Nat) (e:Ending) (w':World):Prop:=e=.returned (.tuple #[.agg (bR r.1),vI r.2])∧Below w.heap.size w w'
theorem O6 {s:ByteArray} (w:World) (hs:s.size≤maxLen) (h:4096<s.size∨(af.get s.data.toList 0).2.2≠0∨(af.get s.data.toList 0).1<1∨5≤(af.get s.data.toList 0).1) :
 Calls Tryz.prog 38 #[.string s] w (Ut w (af.fc s.data.toList)):=by
 have hsz:s.data.toList.length=s.size:=aH
 by_cases hbig:4096<s.size
 ·have hd:af.fc s.data.toList=(af.aQ,4):=by unfold af.fc;rw [if_pos (by omega)]
  rw [hd];clear h hd hs;go_enter Tryz.func38,Tryz.ntmps38;go_wp2_with fail;refine bodyPost_ret (v:=.tuple #[.agg (lF),vI 4]) (by simp [results,Tryz.results38,go_sem]) rfl ⟨rfl,(Below.refl _ _).alloc (cC _) _⟩
 ·obtain ⟨n,p,er,hg⟩:∃ n p er,af.get s.data.toList 0=(n,p,er):=⟨_,_,_,rfl⟩
  rw [hg] at h;simp only at h;have CT:=Hi fun w=>eu hg w hs;have M0:Hid (Mem w [(w.heap.size,cl (bR af.aQ) 82)] (w.alloc (cl (lF) 82))):=Hi ((Mem.start w).alloc _);by_cases he:er=0
  ·subst he;have hn:n<1∨5≤n:=ax;have hd:af.fc s.data.toList=(af.aQ,3):=by unfold af.fc;rw [if_neg ax,hg];simp only;rw [if_neg aH,if_pos hn]
   rw [hd];clear hd h hg;have HS:=Hi hs;clear hs;go_enter Tryz.func38,Tryz.ntmps38;go_wp2_with fail;generalize w.alloc (cl (lF) 82)=W at *;refine (CT.out W).mono ?_;rintro e w1 ⟨rfl,hb1⟩;have M1:=Hi (M0.out.later hb1);clear hb1 M0 CT;by_cases h1:n<1
   ·skip
    exact Qc
   ·have h5:5≤n:=ax;exact Qc
  ·have hd:af.fc s.data.toList=(af.aQ,er):=by unfold af.fc;rw [if_neg ax,hg];simp only;rw [if_pos he]
   rw [hd];clear hd h hg;have HS:=Hi hs;clear hs;go_enter Tryz.func38,Tryz.ntmps38;go_wp2_with fail;generalize w.alloc (cl (lF) 82)=W at *;refine (CT.out W).mono ?_;rintro e w1 ⟨rfl,hb1⟩;have M1:=Hi (M0.out.later hb1);clear hb1 M0 CT;have hz:w1.heap[w.heap.size]?=some (cl (bR af.aQ) 82):=M1.out.get 0 rfl;have MZ:Hid (Mem w [(w.heap.size,cl (lF) 82)] w1):=Hi ((Mem.with ⟨M1.out.dZ,fun _ h=>absurd h aH⟩ hz));have rz:=rl MZ.out.rules;have od:=Hi (gQ (m:=af.aQ) M1.out.dZ (cC w.heap.size));have HZ:=Hi (ia (jd (m:=af.aQ) hz));clear hz MZ;go_wp2_with fail;change bodyPost _ _ _ _ _ (jX w1 w.heap.size af.aQ);clear rz;generalize jX w1 w.heap.size af.aQ=WW at *;have rz:=HZ.out;refine bodyPost_ret (v:=.tuple #[.agg (lF),vI (er:Nat)]) c990 rfl ?_;exact ⟨rfl,od.out⟩
end Go.Proofs.N0
namespace Go.Proofs.N0
open Go.RowKit Go.Maps Go.ChangeMaps
variable {s:ByteArray}
theorem fldC5 (b:Nat) (f:af.oa):∃ (x0 x1:Int) (c2 c3 c4:Option Addr),jT b f=[vU x0,vU x1,.pointer c2,.pointer c3,.pointer c4]:=by
 unfold jT;split
 ·exact ⟨_,_,_,_,_,rfl⟩
 ·split<;>exact ⟨_,_,_,_,_,rfl⟩
theorem Uu {n p0:Nat} (w:World) (hs:s.size≤4096) (hg:af.get s.data.toList 0=(n,p0,0)) (G9:1≤n) (hn2:n<5) {r0:af.bJ×Nat×Nat} {q:af.bJ×Nat} (hr0:af.readAll s.data.toList (af.gA n) p0 (af.bk n)=r0)
 (hq:(if r0.2.2≠0 then (af.aQ,r0.2.2) else if r0.2.1<s.size∨r0.1.right=false then (af.aQ,3) else (r0.1,0))=q) :
 Calls Tryz.prog 38 #[.string s] w (Ut w q):=by
 have hsm:s.size≤maxLen:=KY
 have CT:=Hi fun w=>eu hg w hsm
 have HSM:=Hi hsm
 have hne:af.bk n≠[]:=by have:n=1∨n=2∨n=3∨n=4:=ax;rcases this with rfl|rfl|rfl|rfl<;>decide
 have Gd:=Hi hne
 have hwk:=af.Wf.kind (k:=n) ax
 obtain ⟨HWK,HR0,HQ⟩:=ju hwk hr0 hq
 have hk:(Lit.int .i64 (n:Int)).wf=true:=WalkArith.wf_i64 ax
 have HK:=Hi hk
 have Zs:=af.qh n
 obtain ⟨l,hl⟩:∃ l,l=af.bk (n:Int):=⟨_,rfl⟩
 have HL:=Hi hl
 rw [←hl] at Gd HR0 Zs
 have hwn:IntKind.i64.wrap (n:Int)=n:=TF
 have M0:Hid (Mem w [(w.heap.size,cl (bR af.aQ) 82)] (w.alloc (cl (lF) 82))):=Hi ((Mem.start w).alloc _)
 clear hg hsm hne hwk hr0 hq hk hl
 go_enter Tryz.func38,Tryz.ntmps38
 go_wp2_with fail
 generalize w.alloc (cl (lF) 82)=W at *
 refine (CT.out W).mono ?_
 rintro e w1 ⟨rfl,hb1⟩
 have M1:=Hi (M0.out.later hb1)
 clear hb1 M0 CT
 go_wp2_with fail
 have M2:Hid (Mem w [(w1.heap.size,cl (bR (af.gA n)) 82),(w.heap.size,cl (bR af.aQ) 82)] (w1.alloc (cl #[vI (n:Int),vU 0,vU 0,.string ⟨#[]⟩,vI 0,vI 0,vI 0,vI 0,vI 0,vI 0,vI 0,vU 0,vU 0] 82))):=Hi (M1.out.alloc _)
 have hlt1:=M1.out.lt 0 rfl
 generalize w1.alloc (cl #[vI (n:Int),vU 0,vU 0,.string ⟨#[]⟩,vI 0,vI 0,vI 0,vI 0,vI 0,vI 0,vI 0,vU 0,vU 0] 82)=W2 at *
 obtain ⟨b,hb⟩:∃ b,b=w1.heap.size:=⟨_,rfl⟩
 rw [←hb] at M2 hlt1 ⊢
 clear M1 hb
 refine (Ci (m:=af.gA n) (k:=n) W2 rfl (M2.out.get 0 rfl) HK.out).mono ?_
 rintro e w2 ⟨hb2,h2⟩
 rw [←HL.out] at h2
 rcases h2 with ⟨h2,_⟩|⟨_,gm,rfl,Ju,Aa⟩
 ·exact absurd h2 Gd.out
 have LM:=M2.out.lt 0 rfl;have hl2:=M2.out.lt 1 rfl
 have M3:Hid (Mem w [(b,cl (bR (af.gA n)) 82),(gm,cl (nV b l) 213),(w.heap.size,cl (bR af.aQ) 82)] w2):=Hi (((M2.out.later hb2).with Aa).sub fun x hx=>by
  simp only [gF,Bp,or_false] at hx ⊢;rcases hx with rfl|rfl|rfl
  ·exact .inr (.inl rfl)
  ·exact .inl rfl
  ·exact .inr (.inr rfl))
 have hd1:gm≠b:=ax
 have hd2:w.heap.size≠b:=ax
 have hge:w.heap.size≤b:=ax
 have HD:Hid (gm≠b∧w.heap.size≠b∧w.heap.size≤b):=Hi ⟨hd1,hd2,hge⟩
 clear hb2 Ju Aa M2 LM hl2 hlt1 hd1 hd2 hge
 obtain ⟨N,hN⟩:∃ N,N=l.length:=⟨_,rfl⟩
 have HN:=Hi hN
 rw [←hN]
 rw [←hN] at Zs
 clear hN hwn G9 hn2
 go_wp2_with fail
 go_loopw [5,6,38] (fun pv ev iv wr=>DecR w s.data.toList l r0 b gm pv ev iv wr) (fun _ _ iv _=>N - (intOf iv).toNat)
 case atStart=>exact ⟨0,p0,af.gA n,pR _,rfl,rfl,rfl,HWK.out,HR0.out,M3.out⟩
 case round =>
  obtain ⟨i,p,m,hi,rfl,rfl,rfl,hwf,wQ,hM⟩:=hrel;rw [←HN.out] at hi;obtain ⟨M4,tR,HRA⟩:=ju hM hwf wQ;clear hM M3 hwf wQ;by_cases hlt:i<N
  ·have hfl:i<l.length:=FX;obtain ⟨f,hf⟩:∃ f,f=l.getD i ⟨0,0,0⟩:=⟨_,rfl⟩
   have LD:f=l[i]:=by rw [hf,ux,lz hfl];rfl
   have hmem:f∈af.bk (n:Int):=by rw [←HL.out,LD];exact KX hfl
   have tT:=Hi hmem;have wQ:=HRA.out;rw [af.ES hfl,←LD] at wQ;have HWR:=Hi (af.Wf.read (f:=f) (s:=s.data.toList) (k:=p) tR.out);obtain ⟨x0,x1,c2,c3,c4,em⟩:=fldC5 b f;have rm:=gZ (M4.out.get 1 rfl) hfl WJ;have M5:Hid (Mem w _ (wr.alloc (cl #[vU x0,vU x1,.pointer c2,.pointer c3,.pointer c4] 213))):=Hi (M4.out.later ((Below.refl _ _).alloc (cC _) _));have CR:=Yo (f:=f) (k:=p) (s:=s) M5.out HD.out.2.2 (fun x hx=>by
    simp only [gF,Bp,or_false] at hx;rcases hx with rfl|rfl
    ·exact HD.out.1
    ·exact HD.out.2.1) tT.out HSM.out
   rw [em] at CR;have CR':=Hi CR;generalize hr:af.jV s.data.toList m p f=r at *;obtain ⟨m',p',Nv⟩:=r;have HRA':=Hi wQ;clear hf LD hmem em hfl wQ CR hr M5;go_wp2_with fail;generalize wr.alloc (cl #[vU x0,vU x1,.pointer c2,.pointer c3,.pointer c4] 213)=W at *;refine CR'.out.mono ?_;rintro e w5 ⟨rfl,hM5⟩;have M6:=Hi hM5;clear hM5 CR' rm;by_cases he:Nv=0
   ·subst he
    have wQ:=HRA'.out
    rw [if_pos rfl] at wQ
    have HRB:=Hi wQ
    clear wQ
    go_wp2_with fail
    go_roundw
    case rel=>exact ⟨i+1,p',m',NH,rfl,rfl,rfl,HWR.out,HRB.out,M6.out⟩
    case measure=>simp [intOf];omega
   ·have wQ:=HRA'.out;rw [if_neg he] at wQ;have hq:=HQ.out;subst wQ;rw [if_pos he] at hq;subst hq;have HE:=Hi he;have hz:w5.heap[w.heap.size]?=some (cl (bR af.aQ) 82):=M6.out.get 2 rfl;have MZ:Hid (Mem w [(w.heap.size,cl (lF) 82)] w5):=Hi ((Mem.with ⟨M6.out.dZ,fun _ h=>absurd h aH⟩ hz));have rz:=rl MZ.out.rules;have od:=Hi (gQ (m:=af.aQ) M6.out.dZ (cC w.heap.size));have HZ:=Hi (ia (jd (m:=af.aQ) hz));clear hz MZ;go_wp2_with fail;change bodyPost _ _ _ _ _ (jX w5 w.heap.size af.aQ);clear rz;generalize jX w5 w.heap.size af.aQ=WW at *;have rz:=HZ.out;refine bodyPost_ret (v:=.tuple #[.agg (lF),vI (Nv:Nat)]) c990 rfl ?_;exact ⟨rfl,od.out⟩
  ·obtain rfl:i=N:=ax;have wQ:=HRA.out;rw [HN.out,List.drop_length] at wQ;have hq:=HQ.out;subst wQ;simp only [af.readAll,ne_eq,not_true_eq_false,if_false] at hq;have hpl:((p:Int)<(s.size:Int))=(p<s.size):=aH;by_cases hp:p<s.size
   ·simp only [hp,true_or,if_true] at hq;subst hq;have hz:wr.heap[w.heap.size]?=some (cl (bR af.aQ) 82):=M4.out.get 2 rfl;have MZ:Hid (Mem w [(w.heap.size,cl (lF) 82)] wr):=Hi ((Mem.with ⟨M4.out.dZ,fun _ h=>absurd h aH⟩ hz));have rz:=rl MZ.out.rules;have od:=Hi (gQ (m:=af.aQ) M4.out.dZ (cC w.heap.size));have HZ:=Hi (ia (jd (m:=af.aQ) hz));clear hz MZ;go_wp2_with fail;change bodyPost _ _ _ _ _ (jX wr w.heap.size af.aQ);clear rz;generalize jX wr w.heap.size af.aQ=WW at *;exact Zx
   ·have rx:=ia (M4.out.get 0 rfl);obtain ⟨rb,hrb⟩:∃ rb,m.right=rb:=⟨_,rfl⟩
    have CQ:=jG hrb wr tR.out;unfold bR at CQ;have CQ':=Hi CQ;clear CQ;go_wp2_with fail;refine CQ'.out.mono ?_;rintro e w6 ⟨rfl,P6⟩;have M6:=Hi (M4.out.later P6);clear P6 CQ' rx;cases rb
    ·simp only [hrb,or_true,if_true] at hq;subst hq;clear hrb;have hz:w6.heap[w.heap.size]?=some (cl (bR af.aQ) 82):=M6.out.get 2 rfl;have MZ:Hid (Mem w [(w.heap.size,cl (lF) 82)] w6):=Hi ((Mem.with ⟨M6.out.dZ,fun _ h=>absurd h aH⟩ hz));have rz:=rl MZ.out.rules;have od:=Hi (gQ (m:=af.aQ) M6.out.dZ (cC w.heap.size));have HZ:=Hi (ia (jd (m:=af.aQ) hz));clear hz MZ;go_wp2_with fail;change bodyPost _ _ _ _ _ (jX w6 w.heap.size af.aQ);clear rz;generalize jX w6 w.heap.size af.aQ=WW at *;exact Zx
    ·simp only [hp,hrb,Bool.true_eq_false,or_self,if_false] at hq;subst hq;clear hrb;have rx:=ia (M6.out.get 0 rfl);have hz:w6.heap[w.heap.size]?=some (cl (bR af.aQ) 82):=M6.out.get 2 rfl;have MZ:Hid (Mem w [(w.heap.size,cl (lF) 82)] w6):=Hi ((Mem.with ⟨M6.out.dZ,fun _ h=>absurd h aH⟩ hz));have rz:=rl MZ.out.rules;have od:=Hi (gQ (m:=m) M6.out.dZ (cC w.heap.size));have HZ:=Hi (ia (jd (m:=m) hz));clear hz MZ;go_wp2_with fail;change bodyPost _ _ _ _ _ (jX w6 w.heap.size m);clear rz rx;generalize jX w6 w.heap.size m=WW at *;have rz:=HZ.out;refine bodyPost_ret (v:=.tuple #[.agg (dW m),vI 0]) (by simp [results,Tryz.results38,go_sem,rz]) rfl ?_;exact ⟨rfl,od.out⟩
theorem Uv {r:af.bJ×Nat} (hr:af.fc s.data.toList=r) (w:World) (hs:s.size≤maxLen):Calls Tryz.prog 38 #[.string s] w (Ut w r):=by
 subst hr;by_cases h:4096<s.size∨(af.get s.data.toList 0).2.2≠0∨(af.get s.data.toList 0).1<1∨5≤(af.get s.data.toList 0).1
 ·exact O6 w hs h
 ·have hsz:s.data.toList.length=s.size:=aH;have h1:¬4096<s.size:=fun x=>h (.inl x);have h2:(af.get s.data.toList 0).2.2=0:=Decidable.byContradiction fun x=>h (.inr (.inl x));have h3:¬(af.get s.data.toList 0).1<1:=fun x=>h (.inr (.inr (.inl x)));have h4:¬5≤(af.get s.data.toList 0).1:=fun x=>h (.inr (.inr (.inr x)));refine Uu (n:=(af.get s.data.toList 0).1) (p0:=(af.get s.data.toList 0).2.1) w ax (by rw [←h2]) ax ax rfl ?_;symm;unfold af.fc;rw [if_neg (show ¬4096<s.data.toList.length by omega),if_neg (show ¬(af.get s.data.toList 0).2.2≠0 by rw [h2];simp),if_neg (show ¬((af.get s.data.toList 0).1<1∨5≤(af.get s.data.toList 0).1) by omega),hsz]
end Go.Proofs.N0
namespace Go.Proofs.N0
open Go.RowKit Go.Maps Go.ChangeMaps
variable {q er:Nat} {pl xU:af.aP} {f:FuncId} {args:Array Value}
section
variable {S:List Nat} {w0 W:World} {p b:Nat} {L:List (Nat×Obj)} {R:List aW} {t:af.Pt} {st bO:af.Store}
theorem cn.nodup {w:World} {A:List Nat} (h:cn w q pl A):A.Nodup:=by obtain ⟨mb,A,D,h1,h2,rfl⟩:=h;exact h1.apart
theorem NF.Hu {E:Ending} (h:NF S w0 W (dB q pl::R) L) (hc:∀ A,cn W q pl A→Calls Tryz.prog f args W fun e w'=>e=E∧∃ A',cn w' q xU A'∧(∀ i∈A',i∈A∨W.heap.size≤i)∧az A W w'):Calls Tryz.prog f args W fun e w'=>e=E∧NF S w0 w' (dB q xU::R) L:=by
 obtain ⟨S1,⟨⟨Z,hz,hS⟩,-,-⟩,h2⟩:=NF.split (A:=[dB q pl]) h;obtain ⟨a,Z2,rfl,e1,e2⟩:=List.map_eq_cons_iff.1 hz.rs;obtain rfl:=List.map_eq_nil_iff.1 e2;have ha:=hz.res a (dN ..);rw [e1] at ha;have hin:∀ i∈a.2,i∈S1:=fun i hi=>by
  rcases hS i IU with h|h
  ·exact h
  ·have:=(dB q pl).lt ha i hi;omega
 refine (hc a.2 ha).mono ?_;rintro e w' ⟨rfl,A',hA,hs,ht⟩;refine ⟨rfl,h2 w' [dB q xU] [] ⟨⟨[(dB q xU,A')],⟨rfl,fun z hz=>?_,fun x hx=>absurd hx aH,?_⟩,fun i hi=>?_⟩,fun x hx=>absurd hx aH,ht.mono hin⟩⟩
 ·rw [rZ] at hz;subst hz;exact hA
 ·simpa [gG] using hA.nodup
 ·rcases hs i IU with h|h
  ·exact .inl (hin i h)
  ·exact .inr h
theorem NF.Yp {now:Nat} {f:af.bC} {sx:List UInt8} {wh:Bool} (h:NF S w0 W (dB q pl::R) L) (hok:pl.Ok) (cT:now<18446744073709551616) (hr:pl.add f now=(xU,sx,wh,er)) :
 Calls Tryz.prog 37 #[vP q 0,.agg (jg f),vU now] W fun e w'=>e=.returned (.tuple #[vS sx,.bool wh,vI er])∧NF S w0 w' (dB q xU::R) L :=
 h.Hu fun A hA=>(add_as hr W hA hok cT).mono (by rintro e w' ⟨rfl,A',h1,h2,h3⟩;exact ⟨rfl,A',h1,h2,h3⟩)
theorem cI.slices {g:af.SN} (h:Calls Tryz.prog f args W (cI S w0 R L p b st t g er)):Calls Tryz.prog f args W fun e w'=>∃ (oq:Option Addr) (ol oc:Nat),e=.returned (.tuple #[.agg (eM g.peer g.text g.yes g.h (.slice oq ol oc) g.code),vI er])∧NF S w0 w' (bA (.slice oq ol oc) g.out::ah p st::bK p b t::R) L:=by refine h.mono ?_;exact aad
theorem _root_.af.Pt.Wf.aO (h:t.Wf) (ps:List af.aP):({t with aO:=ps}:af.Pt).Wf:=⟨h.me,h.aj,h.many,h.offer,h.size,h.ak,h.messages,h.stamp,h.begun,h.live,h.ids⟩
theorem Uw {eW:List UInt8} {w now:Nat} {d0 d1:Int} (h:NF S w0 W (ah p st::bK p b t::R) L) (hps:eW.length≤maxLen) (hhas:t.has w=true) {fx:af.bC} (hd:af.decode eW=(fx,er)) (her:er≠0) :
 Calls Tryz.prog 19 #[vP b 0,vI w,vS eW,vU now,.agg #[vI d0,vI d1]] W (cI S w0 R L p b st t af.nJ er):=by
 obtain ⟨a,ha,hw,h⟩:=cx h
 have e0:((er:Int)==0)=false:=aR
 clear her
 have CH:=Hi (jK (who:=(w:Int)) (c:=true) (a:=a) (t:=t) (p:=p) (L:=(a.rp,cl a.kp 65)::(a.rq,cl a.kq 110)::L) (((h.alloc (cl #[vI d0,vI d1] 49)).alloc (cl (dK) 35)).sub (((zq _ _)).trans (zq _ _))) hhas)
 unfold cN at h
 simp only [bQ,bG] at h
 have F0:=Hi ((h.alloc (cl #[vI d0,vI d1] 49)).alloc (cl (dK) 35))
 simp only [World.size_alloc] at F0
 unfold iz at F0
 obtain ⟨HA,HW,HPS⟩:=ju ha hw hps
 clear h ha hw hps hhas
 have r:=rl F0.out.mem.rules
 go_enter Tryz.func19,Tryz.ntmps19
 go_wp2_with fail
 clear r
 refine CH.out.mono ?_
 rintro e w1 ⟨rfl,hb1⟩
 have F1:=Hi (F0.out.later hb1)
 clear hb1 CH F0
 have r:=rl F1.out.mem.rules
 have CD:Hid (Calls Tryz.prog 36 #[vS eW] w1 fun e w'=>e=.returned (.tuple #[.agg (jg fx),vI er])∧Below w1.heap.size w1 w'):=Hi (Hg (s:=⟨eW.toArray⟩) hd w1 (by have:=HPS.out;show eW.toArray.size≤maxLen;rw [qg];exact this))
 clear hd
 go_wp2_with fail
 clear r
 refine CD.out.mono ?_
 rintro e w2 ⟨rfl,hb2⟩
 have F2:=Hi (((F1.out.later hb2).alloc (cl (jg fx) 116)).perm (L':=(W.heap.size+1,cl (dK) 35)::(w2.heap.size,cl (jg fx) 116)::(W.heap.size,cl #[vI d0,vI d1] 49)::(b,cl (jt p a t) 80)::(a.rp,cl a.kp 65)::(a.rq,cl a.kq 110)::L) K3)
 clear hb2 CD F1
 have r:=rl F2.out.mem.rules
 have F8:=Hi (F2.out.ou (B:=[]) (vI 0) (.string ⟨#[]⟩) (.bool false) (vI 0) (.slice none 0 0) (vI 0))
 simp only [bG] at F8
 have r2:=rl F8.out.mem.rules
 have F9:=Hi (F8.out.sub (zq _ _)|>.sub (zq _ _)|>.sub (zq _ _))
 go_wp2_with fail
 exact bodyPost_ret (v:=.tuple #[.agg (dK),vI er]) Ye rfl (cI.none rfl (fP HA.out HW.out F9.out))
end
end Go.Proofs.N0
namespace Go.Proofs.N0
open Go.RowKit Go.Maps Go.ChangeMaps
variable {w:World} {tm:Nat} {eW sx:List UInt8} {d0 d1:Int} {fx:af.bC} {pl xU:af.aP}
section
variable {S:List Nat} {w0 W:World} {p b:Nat} {L:List (Nat×Obj)} {R:List aW} {t:af.Pt} {st bO:af.Store}
theorem pQ.later {w':World} (h:pQ w tm) (hb:Below w.heap.size w w'):pQ w' tm:=World.ownsMap.same h (hb.block _ (World.ownsMap.lt h))
theorem perm_g {α:Type} (f s p:α) (R:List α):(f::s::p::R).Perm (s::p::f::R):=(List.Perm.swap _ _ _).trans ((List.Perm.swap _ _ _).cons s)
theorem NF.funIn (h:NF S w0 W R L) (hr:Kv tm∈R):pQ W tm:=by obtain ⟨A,B,rfl⟩:=List.append_of_mem hr;exact (h.bP tE).funAt
theorem pQ.look2 {k:Nat} {F:FuncId} (h:pQ w tm) (h1:1≤k) (h4:k≤4) (hF:fnK k=.func (.func F) #[] #[]):∀ z:Later w,(Instr.lookup 124 (.map (some tm)) (vI (k:Nat)) false).run Tryz.prog z.world=.ok (.func (.func F) #[] #[]) z.world:=fun z=>by rw [←hF];exact (h.later z.below).look h1 h4
def Yq (p b w now:Nat) (d0 d1:Int) (st:af.Store) (t2:af.Pt) (sx:List UInt8) (wh:Bool) (er:Nat) (bO:af.Store) (t1:af.Pt) (g:af.SN) (e2:Nat):Prop :=
 (er≠0∧er=e2∧st=bO∧t2=t1∧af.nJ=g)∨(er=0∧wh=false∧0=e2∧st=bO∧t2=t1∧af.nJ=g)∨(er=0∧wh=true∧sx.length≤maxLen∧(∃ m,af.fc sx=(m,e2))∧e2≠0∧st=bO∧t2=t1∧af.nJ=g) ∨
 (er=0∧wh=true∧sx.length≤maxLen∧∃ m,af.fc sx=(m,0)∧∃ (kd:Nat) (fd:FuncId),m.v 0=kd∧1≤kd∧kd≤4∧fnK kd=.func (.func fd) #[] #[]∧∀ (S:List Nat) (w0 W:World) (R:List aW) (L:List (Nat×Obj)),NF S w0 W (ah p st::bK p b t2::R) L→Calls Tryz.prog fd #[vP b 0,eY m w now d0 d1] W (cI S w0 R L p b bO t1 g e2))
theorem Ux {kd:Nat} {fd:FuncId} (h1:1≤kd) (h4:kd≤4) (h:fnK kd=.func (.func fd) #[] #[]):fd=84∨fd=85∨fd=86∨fd=87:=by obtain rfl|rfl|rfl|rfl:kd=1∨kd=2∨kd=3∨kd=4:=ax;all_goals (cases h;simp)
theorem rK {w now:Nat} (h:NF S w0 W (ah p st::bK p b t::R) L) (hps:eW.length≤maxLen) (hhas:t.has w=true) (hwl:w<t.aj.length) (cT:now<18446744073709551616) (hd:af.decode eW=(fx,0)) {wh:Bool} {er:Nat} (hpl:t.aO[w]?=some pl) (Qa:pl.add fx now=(xU,sx,wh,er)) {t1:af.Pt} {g:af.SN} {e2:Nat} (hout:Yq p b w now d0 d1 st {t with aO:=t.aO.set w xU} sx wh er bO t1 g e2) :
 Calls Tryz.prog 19 #[vP b 0,vI w,vS eW,vU now,.agg #[vI d0,vI d1]] W (cI S w0 R L p b bO t1 g e2):=by
 obtain ⟨a,ha,hw,h⟩:=cx h
 have HOUT:=Hi hout
 clear hout
 obtain ⟨HKQ,rI,Uy,HAR0,HPL0⟩:=vT ha.kq hwl cT Qa hpl
 clear hwl cT Qa hpl
 have CH:=Hi (jK (who:=(w:Int)) (c:=true) (a:=a) (t:=t) (p:=p) (L:=(a.rp,cl a.kp 65)::(a.rq,cl a.kq 110)::L) (((h.alloc (cl #[vI d0,vI d1] 49)).alloc (cl (dK) 35)).sub (((zq _ _)).trans (zq _ _))) hhas)
 unfold cN at h
 simp only [bQ,bG] at h
 have F0:=Hi ((h.alloc (cl #[vI d0,vI d1] 49)).alloc (cl (dK) 35))
 simp only [World.size_alloc] at F0
 unfold iz at F0
 obtain ⟨HA,HW,HPS⟩:=ju ha hw hps
 clear h ha hw hps hhas
 have r:=rl F0.out.mem.rules
 go_enter Tryz.func19,Tryz.ntmps19
 go_wp2_with fail
 clear r
 refine CH.out.mono ?_
 rintro e w1 ⟨rfl,hb1⟩
 have F1:=Hi (F0.out.later hb1)
 clear hb1 CH F0
 have r:=rl F1.out.mem.rules
 have CD:Hid (Calls Tryz.prog 36 #[vS eW] w1 fun e w'=>e=.returned (.tuple #[.agg (jg fx),vI 0])∧Below w1.heap.size w1 w'):=Hi (Hg (s:=⟨eW.toArray⟩) hd w1 (by have:=HPS.out;show eW.toArray.size≤maxLen;rw [qg];exact this))
 clear hd
 go_wp2_with fail
 clear r
 refine CD.out.mono ?_
 rintro e w2 ⟨rfl,hb2⟩
 have F2:=Hi ((F1.out.later hb2).alloc (cl (jg fx) 116))
 clear hb2 CD F1
 have r:=rl F2.out.mem.rules
 go_wp2_with fail
 clear r
 obtain ⟨k,q,pl1,sl,hk,hpl,jN,hok,g,hback⟩:=kZ (b:=b) (w:=w) (L:=(w2.heap.size,cl (jg fx) 116)::(W.heap.size+1,cl (dK) 35)::(W.heap.size,cl #[vI d0,vI d1] 49)::L) HA.out rI.out (F2.out.perm Yf)
 obtain rfl:pl=pl1:=Option.some.inj (HPL0.out.symm.trans hpl)
 obtain ⟨yP,pI⟩:∃ yP,yP=(bB a t).eraseIdx w++iN a p t R:=⟨_,rfl⟩
 rw [←pI] at g
 unfold dD cN iz at g
 simp only [bQ,bG] at g
 have F3:=Hi (g.perm (L':=(k,cl (oI q sl) 109)::(b,cl (jt p a t) 80)::(w2.heap.size,cl (jg fx) 116)::(W.heap.size+1,cl (dK) 35)::(W.heap.size,cl #[vI d0,vI d1] 49)::(a.rq,cl a.kq 110)::(a.rp,cl a.kp 65)::L) K3)
 have LS:=Hi hk;have Fb:=Hi hpl;have Cn:=Hi jN;have jx:=Hi hok;have mZ:=Hi hback;have BL:=Hi pI;have HAR:=HAR0
 clear g hk hpl jN hok hback pI F2 HAR0
 refine sk (n:=78) [12] [] (tb [vP b 0,vP b 0,vP b 10,vL a.rq 0 t.aj.length a.cq,vI (w:Nat),vP a.rq w,vP k 0,vP k 0,vP k 0,vP q 0,some (.agg (jg fx)),vU (now:Nat),some (.tuple #[vS sx,.bool wh,vI er]),some (.tuple #[vS sx,.bool wh,vI er]),vS sx,some (.bool wh),vI er,vS sx,some (.bool wh),vI er]) [(k,cl (oI q sl) 109),(b,cl (jt p a t) 80),(w2.heap.size,cl (jg fx) 116),(W.heap.size+1,cl (dK) 35),(W.heap.size,cl #[vI d0,vI d1] 49),(a.rq,cl a.kq 110)] ((a.rp,cl a.kp 65)::L) [([],dB q pl::ah p st::yP,[]),
  ([],dB q xU::ah p st::yP,[])] (F3.out) ⟨sP,sP,sP,sP,sP,?_,?_,sP,sP,sP,sP,sP,?_,sP,sP,sP,sP,sP,sP,sP,trivial⟩ ?_
 ·exact QU
 ·exact PA
 ·refine wC ?_;intro D v qq x h0;exact mo (h0.Yp jx.out Uy.out HAR.out)
 ·intro v qq x hF hA h;simp only [SC] at h;have F4:=Hi h;simp only [PU,bF,Nat.reduceAdd,gT hF 17,gT hF 18,gT hF 19];clear hF hA h;clear F3;have hpok:xU.Ok:=by have:=af.add_ok jx.out (f:=fx) Uy.out;rw [HAR.out] at this;exact this
  have g1:=mZ.out [] x st xU sl a {t with aO:=t.aO.set w xU} R _ hpok rfl rfl (ld Cn.out).symm (by have:=F4.out;rw [BL.out] at this;exact this);obtain ⟨t2,gj⟩:∃ t2,t2=({t with aO:=t.aO.set w xU}:af.Pt):=⟨_,rfl⟩
  have uf:Hid (a.ok t2):=Hi (by rw [gj];exact ⟨HA.out.cp,HA.out.cq,HA.out.kp,HA.out.kq,HA.out.pa,by simp only [List.length_set];exact HA.out.aO,HA.out.slots⟩);have VB:Hid t2.Wf:=Hi (by rw [gj];exact HW.out.aO _);have F5:=Hi (g1.perm (L':=(W.heap.size+1,cl (dK) 35)::(w2.heap.size,cl (jg fx) 116)::(W.heap.size,cl #[vI d0,vI d1] 49)::(cN a p b t++L)) Yf);simp only [bG] at F5;have F6:Hid (NF S w0 x (ah p st::(cS a p t2++R)) ((W.heap.size+1,cl (dK) 35)::(w2.heap.size,cl (jg fx) 116)::(W.heap.size,cl #[vI d0,vI d1] 49)::(cN a p b t2++L))):=Hi (by rw [gj];exact F5.out);have wV:=Hi gj;clear g1 hpok F4 F5 mZ BL gj;have r:=rl F6.out.mem.rules;rcases HOUT.out with ⟨hz,rfl,rfl,rfl,rfl⟩|⟨hz,rfl,rfl,rfl,rfl,rfl⟩|⟨hz,rfl,VG,⟨m,Mm⟩,VR,rfl,rfl,rfl⟩|⟨hz,rfl,VG,m,Mm,kd,fd,hkd,jS,hk4,hfk,hgo⟩
  ·skip
   have e0:((er:Int) != 0)=true:=aR
   have F8:=Hi (F6.out.ou (B:=[]) (vI 0) (.string ⟨#[]⟩) (.bool false) (vI 0) (.slice none 0 0) (vI 0))
   simp only [bG] at F8
   have r2:=rl F8.out.mem.rules
   have F9:=Hi (F8.out.sub (zq _ _)|>.sub (zq _ _)|>.sub (zq _ _))
   go_wp2_with fail
   rw [←wV.out]
   exact bodyPost_ret (v:=.tuple #[.agg (dK),vI er]) Ye rfl (cI.none rfl (fP uf.out VB.out F9.out))
  ·have her:((er:Nat):Int)=0:=by rw [hz];rfl
   simp only [her];clear her hz;have F8:=Hi (F6.out.ou (B:=[]) (vI 0) (.string ⟨#[]⟩) (.bool false) (vI 0) (.slice none 0 0) (vI 0));simp only [bG] at F8;have r2:=rl F8.out.mem.rules;have F9:=Hi (F8.out.sub (zq _ _)|>.sub (zq _ _)|>.sub (zq _ _));go_wp2_with fail;rw [←wV.out];exact bodyPost_ret (v:=.tuple #[.agg (dK),vI 0]) Ye rfl (cI.none rfl (fP uf.out VB.out F9.out))
  ·have her:((er:Nat):Int)=0:=by rw [hz];rfl
   simp only [her];clear her hz;have e0:((e2:Int)==0)=false:=aR;clear VR;obtain ⟨HDM,HSX⟩:=hi2 Mm VG;clear Mm VG;have CM:Hid (Calls Tryz.prog 38 #[vS sx] x fun e w'=>e=.returned (.tuple #[.agg (dW m),vI e2])∧Below x.heap.size x w'):=Hi (Uv (s:=⟨sx.toArray⟩) HDM.out x (by have:=HSX.out;show sx.toArray.size≤maxLen;rw [qg];exact this));clear HDM;go_wp2_with fail;clear r;refine CM.out.mono ?_;rintro e w4 ⟨rfl,hb4⟩;have F7:=Hi (((F6.out.later hb4).alloc (cl (dW m) 82)).perm (L':=(W.heap.size+1,cl (dK) 35)::(w4.heap.size,cl (dW m) 82)::(w2.heap.size,cl (jg fx) 116)::(W.heap.size,cl #[vI d0,vI d1] 49)::(cN a p b t2++L)) K3);clear hb4 CM F6;have r:=rl F7.out.mem.rules;have F8:=Hi (F7.out.ou (B:=[]) (vI 0) (.string ⟨#[]⟩) (.bool false) (vI 0) (.slice none 0 0) (vI 0));simp only [bG] at F8;have r2:=rl F8.out.mem.rules;have F9:=Hi (F8.out.sub (zq _ _)|>.sub (zq _ _)|>.sub (zq _ _)|>.sub (zq _ _));go_wp2_with fail;rw [←wV.out];exact bodyPost_ret (v:=.tuple #[.agg (dK),vI e2]) Ye rfl (cI.none rfl (fP uf.out VB.out F9.out))
  ·have her:((er:Nat):Int)=0:=by rw [hz];rfl
   simp only [her];clear her hz;obtain ⟨HDM,HSX⟩:=hi2 Mm VG;clear Mm VG;obtain ⟨HKD,HGO0,rY,Xb,HFK⟩:=vT hkd hgo jS hk4 hfk;have Zd:Hid (fd=84∨fd=85∨fd=86∨fd=87):=Hi (Ux jS hk4 hfk);clear hkd hgo jS hk4 hfk;have CM:Hid (Calls Tryz.prog 38 #[vS sx] x fun e w'=>e=.returned (.tuple #[.agg (mkK m (kd:Nat)),vI 0])∧Below x.heap.size x w'):=Hi (by rw [←HKD.out];exact Uv (s:=⟨sx.toArray⟩) HDM.out x (by have:=HSX.out;show sx.toArray.size≤maxLen;rw [qg];exact this));clear HDM;go_wp2_with fail;clear r;refine CM.out.mono ?_;rintro e w4 ⟨rfl,hb4⟩;have F7:=Hi (fP uf.out VB.out (((F6.out.later hb4).alloc (cl (mkK m (kd:Nat)) 82)).perm (L':=cN a p b t2++((W.heap.size+1,cl (dK) 35)::(w4.heap.size,cl (mkK m (kd:Nat)) 82)::(w2.heap.size,cl (jg fx) 116)::(W.heap.size,cl #[vI d0,vI d1] 49)::L)) K3));have HGO:Hid (∀ (S:List Nat) (w0 W:World) (R:List aW) (L:List (Nat×Obj)),NF S w0 W (ah p st::bK p b t2::R) L→Calls Tryz.prog fd #[vP b 0,.agg #[vI (kd:Nat),vU (m.v 1),vU (m.v 2),vS m.offer,vI (m.v 4),vI (m.v 5),vI (m.v 6),vI (m.v 7),vI (m.v 8),vI (m.v 9),vI (m.v 10),vU (m.v 11),vU (m.v 12),vI (w:Nat),vU (now:Nat),vI d0,vI d1]] W fun e w'=>∃ (oq:Option Addr) (ol oc:Nat),e=.returned (.tuple #[.agg (eM g.peer g.text g.yes g.h (.slice oq ol oc) g.code),vI e2])∧NF S w0 w' (bA (.slice oq ol oc) g.out::ah p bO::bK p b t1::R) L):=Hi (by
    intro S w0 W R L h
    rw [wV.out] at h
    have:=cI.slices (HGO0.out _ _ _ _ _ h)
    unfold eY at this
    first|rw [HKD.out] at this|(unfold kj at this;rw [HKD.out] at this)
    exact this)
   clear hb4 CM F6 uf VB wV HGO0;have r:=rl F7.out.mem.rules;go_wp2_with fail;clear r;refine XK (n:=78) [0,10,11,13] [] (tb [none,vP w4.heap.size 0,vI (kd:Nat),some (.func (.func fd) #[] #[]),vP b 0,some (.agg (mkK m (kd:Nat))),vI (w:Nat),vU (now:Nat),some (.agg #[vI d0,vI d1]),some (.agg #[vI (kd:Nat),vU (m.v 1),vU (m.v 2),vS m.offer,vI (m.v 4),vI (m.v 5),vI (m.v 6),vI (m.v 7),vI (m.v 8),vI (m.v 9),vI (m.v 10),vU (m.v 11),vU (m.v 12),vI (w:Nat),vU (now:Nat),vI d0,vI d1]),none,none,vI e2,none,vI e2]) ((w4.heap.size,cl (mkK m (kd:Nat)) 82)::(w2.heap.size,cl (jg fx) 116)::(W.heap.size,cl #[vI d0,vI d1] 49)::[]) [kN S w0 [] (ah p st::bK p b t2::R) ((W.heap.size+1,cl (dK) 35)::(w4.heap.size,cl (mkK m (kd:Nat)) 82)::(w2.heap.size,cl (jg fx) 116)::(W.heap.size,cl #[vI d0,vI d1] 49)::L),
    jW (α:=Nat×Unit) S w0 (fun ch=>[(0,.map (some ch.1))]) (fun _=>[]) (fun ch=>Kv ch.1::ah p st::bK p b t2::R) (fun _=>(W.heap.size+1,cl (dK) 35)::(w4.heap.size,cl (mkK m (kd:Nat)) 82)::(w2.heap.size,cl (jg fx) 116)::(W.heap.size,cl #[vI d0,vI d1] 49)::L),
    jW (α:=Nat×Option Addr×Nat×Nat×Unit) S w0 (fun ch=>[(0,.map (some ch.1)),(10,.tuple #[.agg (eM g.peer g.text g.yes g.h (.slice ch.2.1 ch.2.2.1 ch.2.2.2.1) g.code),vI e2])]) (fun _=>[]) (fun ch=>bA (.slice ch.2.1 ch.2.2.1 ch.2.2.2.1) g.out::ah p bO::bK p b t1::Kv ch.1::R) (fun _=>(W.heap.size+1,cl (dK) 35)::(w4.heap.size,cl (mkK m (kd:Nat)) 82)::(w2.heap.size,cl (jg fx) 116)::(W.heap.size,cl #[vI d0,vI d1] 49)::L),
    jW (α:=Nat×Option Addr×Nat×Nat×Unit) S w0 (fun ch=>[(0,.map (some ch.1)),(10,.tuple #[.agg (eM g.peer g.text g.yes g.h (.slice ch.2.1 ch.2.2.1 ch.2.2.2.1) g.code),vI e2]),(11,.agg (eM g.peer g.text g.yes g.h (.slice ch.2.1 ch.2.2.1 ch.2.2.2.1) g.code))]) (fun _=>[]) (fun ch=>bA (.slice ch.2.1 ch.2.2.1 ch.2.2.2.1) g.out::ah p bO::bK p b t1::Kv ch.1::R) (fun _=>(W.heap.size+1,cl (dK) 35)::(w4.heap.size,cl (mkK m (kd:Nat)) 82)::(w2.heap.size,cl (jg fx) 116)::(W.heap.size,cl #[vI d0,vI d1] 49)::L),
    jW (α:=Nat×Option Addr×Nat×Nat×Unit) S w0 (fun ch=>[(0,.map (some ch.1)),(10,.tuple #[.agg (eM g.peer g.text g.yes g.h (.slice ch.2.1 ch.2.2.1 ch.2.2.2.1) g.code),vI e2]),(11,.agg (eM g.peer g.text g.yes g.h (.slice ch.2.1 ch.2.2.1 ch.2.2.2.1) g.code))]) (fun _=>[]) (fun ch=>bA (.slice ch.2.1 ch.2.2.1 ch.2.2.2.1) g.out::ah p bO::bK p b t1::Kv ch.1::R) (fun ch=>(W.heap.size+1,cl (eM g.peer g.text g.yes g.h (.slice ch.2.1 ch.2.2.1 ch.2.2.2.1) g.code) 35)::(w4.heap.size,cl (mkK m (kd:Nat)) 82)::(w2.heap.size,cl (jg fx) 116)::(W.heap.size,cl #[vI d0,vI d1] 49)::L)] (F7.out) ⟨?_,sP,sP,?_,sP,sP,sP,sP,sP,sP,?_,sY,sE 1,?_,sP,trivial⟩ ?_
   ·refine wX ?_;intro D v qq x ch hS h0;refine (Ur h0).mono ?_;rintro e z ⟨tm,rfl,h⟩;exact ⟨(tm,()),xE,h⟩
   ·refine sE 0 ?_;repeat (first|exact True.intro|(refine ⟨?_,?_⟩;· intro D v x h hE;obtain ⟨ch,qq,hS,_,h0⟩:=h;have lk3:∀ z:Later x,(Instr.lookup 124 (.map (some ch.1)) (vI (kd:Nat)) false).run Tryz.prog z.world=.ok (.func (.func fd) #[] #[]) z.world:=(by exact pQ.look2 (k:=kd) (h0.funIn (by simp)) rY.out Xb.out HFK.out);exact qE))
   ·rcases Zd.out with rfl|rfl|rfl|rfl<;>(refine wX ?_;intro D v qq x ch hS h0;refine (HGO.out _ _ _ _ _ (h0.bP (perm_g _ _ _ _))).mono ?_;rintro e z ⟨oq,ol,oc,rfl,h⟩;exact ⟨(ch.1,oq,ol,oc,()),xE,h⟩)
   ·exact QT
   ·intro v qq x ch hF hS hA h;obtain ⟨tm,oq,ol,oc,_⟩:=ch;simp only [tH,and_true] at hS;simp only [SC] at h;have F8:=Hi h;simp only [PU,bF,Nat.reduceAdd,gT hF 14,hS];clear hF hS hA h;clear F7;have F9:=Hi ((F8.out.subR (R':=bA (.slice oq ol oc) g.out::ah p bO::bK p b t1::R) (by exact (((zq _ _).cons_cons _).cons_cons _).cons_cons _)).sub (zq _ _)|>.sub (zq _ _)|>.sub (zq _ _)|>.sub (zq _ _));have r:=rl F8.out.mem.rules;go_wp2_with fail;exact bodyPost_ret (v:=.tuple #[.agg (eM g.peer g.text g.yes g.h (.slice oq ol oc) g.code),vI e2]) (by simp [results,Tryz.results19,go_sem,r]) rfl ⟨_,rfl,F9.out⟩
theorem O7 {w now:Nat} (h:NF S w0 W (ah p st::bK p b t::R) L) (hps:eW.length≤maxLen) (hhas:t.has w=true) (hwl:w<t.aj.length) (cT:now<18446744073709551616) (hd:af.decode eW=(fx,0)) {wh:Bool} {er:Nat} (hpl:t.aO[w]?=some pl) (Qa:pl.add fx now=(xU,sx,false,0)) :
 Calls Tryz.prog 19 #[vP b 0,vI w,vS eW,vU now,.agg #[vI d0,vI d1]] W (cI S w0 R L p b st {t with aO:=t.aO.set w xU} af.nJ 0):=rK h hps hhas hwl cT hd hpl Qa (.inr (.inl ⟨rfl,rfl,rfl,rfl,rfl,rfl⟩))
end
end Go.Proofs.N0
namespace Go.Proofs.N0
open Go.RowKit Go.Maps Go.ChangeMaps
variable {w:Nat} {sl:af.aS}
section
variable {S:List Nat} {w0 W:World} {p b:Nat} {L:List (Nat×Obj)} {R:List aW} {a:rT} {t:af.Pt} {st bO:af.Store}
theorem Uz {who:Int} (h:NF S w0 W (ah p st::(cS a p t++R)) (cN a p b t++L)) (hhas:t.has who=false) :
 Calls Tryz.prog 31 #[vP b 0,vI who] W fun e w'=>e=.returned (.tuple #[.pointer none,.agg #[vU 0,vU 0,vU 0],vI 5])∧NF S w0 w' (ah p st::(cS a p t++R)) (cN a p b t++L):=by
 have h1:=h.alloc (cl #[vU 0,vU 0,vU 0] 98)
 have CH:=Hi (jK (who:=who) (c:=false) (a:=a) (t:=t) (p:=p) (L:=(a.rp,cl a.kp 65)::(a.rq,cl a.kq 110)::L) (h1.sub (zq _ _)) hhas)
 have F0:=Hi h1
 clear h h1 hhas
 have r:=rl F0.out.mem.rules
 go_enter Tryz.func31,Tryz.ntmps31
 go_wp2_with fail
 clear r
 refine CH.out.mono ?_
 rintro e w1 ⟨rfl,hb1⟩
 have F1:=Hi (F0.out.later hb1)
 have F2:=Hi (F1.out.ai (B:=[]) 0 (vU 0)|>.ai (B:=[]) 1 (vU 0)|>.ai (B:=[]) 2 (vU 0))
 simp only [aX,jr,aY,bG] at F2
 clear hb1 CH F0
 have r:=rl F1.out.mem.rules
 have r2:=rl F2.out.mem.rules
 go_wp2_with fail
 exact bodyPost_ret (v:=.tuple #[.pointer none,.agg #[vU 0,vU 0,vU 0],vI 5]) c993 rfl ⟨rfl,F2.out.sub (zq _ _)⟩
theorem cur_no (h:NF S w0 W (ah p st::(cS a p t++R)) (cN a p b t++L)) (ha:a.ok t) (hwl:w<t.aj.length) (jN:t.slots[w]?=some sl) (hno:∀ x∈t.live,x.1≠sl.cur.id) (lu:sl.cur.id<18446744073709551616) :
 Calls Tryz.prog 31 #[vP b 0,vI w] W fun e w'=>e=.returned (.tuple #[.pointer none,.agg #[vU 0,vU 0,vU 0],vI 7])∧NF S w0 w' (ah p st::(cS a p t++R)) (cN a p b t++L):=by
 have CH:=Hi (jK (who:=(w:Int)) (c:=true) (a:=a) (t:=t) (p:=p) (L:=(a.rp,cl a.kp 65)::(a.rq,cl a.kq 110)::L) ((h.alloc (cl #[vU 0,vU 0,vU 0] 98)).sub (zq _ _)) Kt)
 have hma:=h.kY (mb:=a.lb) (l:=cu a.la t.live) AO
 obtain ⟨k,q,pl,sl1,hk,hpl,Hv,hok,g,hback⟩:=kZ (b:=b) ha hwl h
 obtain rfl:sl=sl1:=Option.some.inj (jN.symm.trans Hv)
 obtain ⟨yP,pI⟩:∃ yP,yP=(bB a t).eraseIdx w++iN a p t R:=⟨_,rfl⟩
 rw [←pI] at g
 unfold dD cN iz at g
 simp only [bQ,bG] at g
 have F0:=Hi ((g.perm (L':=(k,cl (oI q sl) 109)::(b,cl (jt p a t) 80)::(a.rq,cl a.kq 110)::(a.rp,cl a.kp 65)::L) K3).alloc (cl #[vU 0,vU 0,vU 0] 98))
 have lk:∀ z:Later W,(Instr.lookup 78 (.map (some a.lb)) (vU (sl.cur.id:Nat)) true).run Tryz.prog z.world=.ok (.tuple #[.pointer none,.bool false]) z.world:=fun z=>(hma.later z.below).EK Tryz.underlying78 xk lu (Mk hno)
 obtain ⟨HKQ,LS,rI,Fb,Cn,jx,mZ,BL,LK⟩:=hi9 ha.kq hk hwl hpl jN hok hback pI lk
 clear h ha hwl jN Hv hma g hk hpl hok hback pI lk hno lu
 have r:=rl F0.out.mem.rules
 go_enter Tryz.func31,Tryz.ntmps31
 go_wp2_with fail
 clear r
 refine CH.out.mono ?_
 rintro e w1 ⟨rfl,hb1⟩
 have F1:=Hi (F0.out.later hb1)
 have LK1:Hid (∀ z:Later w1,(Instr.lookup 78 (.map (some a.lb)) (vU (sl.cur.id:Nat)) true).run Tryz.prog z.world=.ok (.tuple #[.pointer none,.bool false]) z.world):=Hi (fun z:Later w1=>LK.out ⟨z.world,(((Below.refl _ W).alloc (cC _) _).trans (hb1.mono EP)).trans (z.below.mono (Fc EP hb1.size))⟩)
 clear hb1 CH F0 LK
 have hw1:(w:Int)<(t.aj.length:Int):=by have:=rI.out;omega
 have hw2:(0:Int)≤(w:Int):=ax
 have yp:=F1.out.mem.rV (g:=a.rq) (T:=110) aH HKQ.out LS.out ⟨w1,Below.refl _ _⟩
 simp only at yp
 have r:=rl F1.out.mem.rules
 go_wp2_with fail
 clear r yp
 have F2:=Hi (F1.out.alloc (cl #[vU sl.cur.id,vU sl.cur.to,vU sl.cur.born] 98))
 have LK2:∀ z:Later (w1.alloc (cl #[vU sl.cur.id,vU sl.cur.to,vU sl.cur.born] 98)),(Instr.lookup 78 (.map (some a.lb)) (vU (sl.cur.id:Nat)) true).run Tryz.prog z.world=.ok (.tuple #[.pointer none,.bool false]) z.world:=fun z=>LK1.out ⟨z.world,((Below.refl _ w1).alloc (cC _) _).trans (z.below.mono EP)⟩
 clear F1 LK1
 have rq:=rl F2.out.mem.ei
 refine ay aI aI ?_
 repeat go_big_quiet_step (fail)
 refine wpQuiet_nil ?_
 rintro ⟨w2,hb⟩
 change Exit.then _ _ _ _ w2
 have F3:=Hi (F2.out.later hb)
 clear hb rq F2 LK2
 have F4:=Hi ((F3.out.perm (List.Perm.swap _ _ _)).ai (B:=[]) 0 (vU 0)|>.ai (B:=[]) 1 (vU 0)|>.ai (B:=[]) 2 (vU 0))
 simp only [aX,jr,aY,bG] at F4
 have r:=rl F3.out.mem.rules
 have r2:=rl F4.out.mem.rules
 go_wp2_with fail
 have g1:=mZ.out [] _ st pl sl a t R _ jx.out rfl (ld Fb.out).symm (ld Cn.out).symm (by have:=F4.out.sub (zq _ _)|>.sub (zq _ _);rw [BL.out] at this;exact this)
 simp only [bG] at g1
 have g2:=g1.perm (L':=cN a p b t++L) Yf
 exact bodyPost_ret (v:=.tuple #[.pointer none,.agg #[vU 0,vU 0,vU 0],vI 7]) c993 rfl ⟨rfl,g2⟩
theorem UA (h:NF S w0 W (ah p st::(cS a p t++R)) (cN a p b t++L)) (ha:a.ok t) (hwl:w<t.aj.length) (jN:t.slots[w]?=some sl) {y:af.dm} (hin:(sl.cur.id,y)∈t.live) :
 Calls Tryz.prog 31 #[vP b 0,vI w] W fun e w'=>e=.returned (.tuple #[vP (a.la sl.cur.id) 0,.agg #[vU sl.cur.id,vU sl.cur.to,vU sl.cur.born],vI 0])∧NF S w0 w' (ah p st::(cS a p t++R)) (cN a p b t++L):=by
 have CH:=Hi (jK (who:=(w:Int)) (c:=true) (a:=a) (t:=t) (p:=p) (L:=(a.rp,cl a.kp 65)::(a.rq,cl a.kq 110)::L) ((h.alloc (cl #[vU 0,vU 0,vU 0] 98)).sub (zq _ _)) Kt)
 have hma:=h.kY (mb:=a.lb) (l:=cu a.la t.live) AO
 obtain ⟨k,q,pl,sl1,hk,hpl,Hv,hok,g,hback⟩:=kZ (b:=b) ha hwl h
 obtain rfl:sl=sl1:=Option.some.inj (jN.symm.trans Hv)
 obtain ⟨yP,pI⟩:∃ yP,yP=(bB a t).eraseIdx w++iN a p t R:=⟨_,rfl⟩
 rw [←pI] at g
 unfold dD cN iz at g
 simp only [bQ,bG] at g
 have F0:=Hi ((g.perm (L':=(k,cl (oI q sl) 109)::(b,cl (jt p a t) 80)::(a.rq,cl a.kq 110)::(a.rp,cl a.kp 65)::L) K3).alloc (cl #[vU 0,vU 0,vU 0] 98))
 have lk:∀ z:Later W,(Instr.lookup 78 (.map (some a.lb)) (vU (sl.cur.id:Nat)) true).run Tryz.prog z.world=.ok (.tuple #[vP (a.la sl.cur.id) 0,.bool true]) z.world:=fun z=>(hma.later z.below).look Tryz.underlying78 xk (AY hin)
 obtain ⟨HKQ,LS,rI,Fb,Cn,jx,mZ,BL,LK⟩:=hi9 ha.kq hk hwl hpl jN hok hback pI lk
 clear h ha hwl jN Hv hma g hk hpl hok hback pI lk hin
 have r:=rl F0.out.mem.rules
 go_enter Tryz.func31,Tryz.ntmps31
 go_wp2_with fail
 clear r
 refine CH.out.mono ?_
 rintro e w1 ⟨rfl,hb1⟩
 have F1:=Hi (F0.out.later hb1)
 have LK1:Hid (∀ z:Later w1,(Instr.lookup 78 (.map (some a.lb)) (vU (sl.cur.id:Nat)) true).run Tryz.prog z.world=.ok (.tuple #[vP (a.la sl.cur.id) 0,.bool true]) z.world):=Hi (fun z:Later w1=>LK.out ⟨z.world,(((Below.refl _ W).alloc (cC _) _).trans (hb1.mono EP)).trans (z.below.mono (Fc EP hb1.size))⟩)
 clear hb1 CH F0 LK
 have hw1:(w:Int)<(t.aj.length:Int):=by have:=rI.out;omega
 have hw2:(0:Int)≤(w:Int):=ax
 have yp:=F1.out.mem.rV (g:=a.rq) (T:=110) aH HKQ.out LS.out ⟨w1,Below.refl _ _⟩
 simp only at yp
 have r:=rl F1.out.mem.rules
 go_wp2_with fail
 clear r yp
 have F2:=Hi (F1.out.alloc (cl #[vU sl.cur.id,vU sl.cur.to,vU sl.cur.born] 98))
 have LK2:∀ z:Later (w1.alloc (cl #[vU sl.cur.id,vU sl.cur.to,vU sl.cur.born] 98)),(Instr.lookup 78 (.map (some a.lb)) (vU (sl.cur.id:Nat)) true).run Tryz.prog z.world=.ok (.tuple #[vP (a.la sl.cur.id) 0,.bool true]) z.world:=fun z=>LK1.out ⟨z.world,((Below.refl _ w1).alloc (cC _) _).trans (z.below.mono EP)⟩
 clear F1 LK1
 have rq:=rl F2.out.mem.ei
 refine ay aI aI ?_
 repeat go_big_quiet_step (fail)
 refine wpQuiet_nil ?_
 rintro ⟨w2,hb⟩
 change Exit.then _ _ _ _ w2
 have F3:=Hi (F2.out.later hb)
 clear hb rq F2 LK2
 have r:=rl F3.out.mem.rules
 go_wp2_with fail
 clear r
 have F4:=Hi (F3.out.perm (List.Perm.swap _ _ _))
 clear F3
 refine sk (n:=41) [3] [] (tb [vP (a.la sl.cur.id) 0,some (.agg #[vU sl.cur.id,vU sl.cur.to,vU sl.cur.born]),vP (a.la sl.cur.id) 0,none,vI 0]) [(w1.heap.size,cl #[vU sl.cur.id,vU sl.cur.to,vU sl.cur.born] 98)] ((k,cl (oI q sl) 109)::(b,cl (jt p a t) 80)::(a.rq,cl a.kq 110)::(a.rp,cl a.kp 65)::L) [([],dB q pl::ah p st::yP,[(W.heap.size,cl #[vU 0,vU 0,vU 0] 98)]),
  ([],dB q pl::ah p st::yP,[(W.heap.size,cl #[vU sl.cur.id,vU sl.cur.to,vU sl.cur.born] 98)])] (F4.out) ⟨sP,sP,sP,?_,sP,trivial⟩ ?_
 ·refine wM ?_;intro D v qq x h0 yy;exact ⟨_,(((h0.ai (B:=[]) 0 (vU sl.cur.id)).ai (B:=[]) 1 (vU sl.cur.to)).ai (B:=[]) 2 (vU sl.cur.born)),wE⟩
 ·intro v qq x hF hA h;simp only [SC] at h;have F5:=Hi h;simp only [PU,bF,Nat.reduceAdd,gT hF 2,gT hF 4];clear hF hA h;have r:=rl F5.out.mem.rules;go_wp2_with fail;have g1:=mZ.out [] _ st pl sl a t R _ jx.out rfl (ld Fb.out).symm (ld Cn.out).symm (by have:=F5.out.sub (zq _ _)|>.sub (zq _ _);rw [BL.out] at this;exact this);simp only [bG] at g1;have g2:=g1.perm (L':=cN a p b t++L) Yf;exact bodyPost_ret (v:=.tuple #[vP (a.la sl.cur.id) 0,.agg #[vU sl.cur.id,vU sl.cur.to,vU sl.cur.born],vI 0]) (by simp [results,Tryz.results31,go_sem,r]) rfl ⟨rfl,g2⟩
end
end Go.Proofs.N0
namespace Go.Proofs.N0
open Go.RowKit Go.Maps Go.ChangeMaps
variable {ep n c w:Nat} {y:af.dm} {sl:af.aS} {text:List UInt8}
theorem _root_.af.dataW {to:Nat} (h1:to<18446744073709551616) (h2:ep<18446744073709551616) (h3:n<18446744073709551616) (h4:c<9223372036854775808):(af.iM to ep n c).Wf:=by
 refine ⟨fun c hc=>?_,fun c hc=>?_,by simp [af.iM]⟩
 ·simp only [gF,Bp,or_false] at hc;rcases hc with rfl|rfl|rfl|rfl|rfl|rfl|rfl|rfl<;>simp [af.iM,af.Int64]<;>omega
 ·simp only [gF,Bp,or_false] at hc;rcases hc with rfl|rfl|rfl|rfl<;>simp [af.iM]<;>omega
theorem dataC (to ep n c:Int):(Value.agg #[vI ((af.iM to ep n c).v 0),vU ((af.iM to ep n c).v 1),vU ((af.iM to ep n c).v 2),vS (af.iM to ep n c).offer,vI ((af.iM to ep n c).v 4),vI ((af.iM to ep n c).v 5),vI ((af.iM to ep n c).v 6),vI ((af.iM to ep n c).v 7),vI ((af.iM to ep n c).v 8),vI ((af.iM to ep n c).v 9),vI ((af.iM to ep n c).v 10),vU ((af.iM to ep n c).v 11),vU ((af.iM to ep n c).v 12)])=.agg #[vI 4,vU 0,vU to,.string ⟨#[]⟩,vI 0,vI 0,vI 0,vI 0,vI 0,vI c,vI 0,vU ep,vU n]:=by simp [af.iM]
section
variable {S:List Nat} {w0 W:World} {p b:Nat} {L:List (Nat×Obj)} {R:List aW} {t:af.Pt} {st bO nu:af.Store}
theorem _root_.af.Pt.Wf.msgs2 (h:t.Wf) (hn:n<18446744073709551616):({t with messages:=n}:af.Pt).Wf :=
 ⟨h.me,h.aj,h.many,h.offer,h.size,h.ak,hn,h.stamp,h.begun,h.live,h.ids⟩
theorem _root_.af.Pt.Wf.lives (h:t.Wf) {id:Nat} (hy:y.Wf):({t with live:=af.lN t.live id y}:af.Pt).Wf:=by
 refine ⟨h.me,h.aj,h.many,h.offer,h.size,h.ak,h.messages,h.stamp,h.begun,fun x hx=>?_,h.ids.1,fun x hx=>?_⟩<;>obtain ⟨z,hz,rfl⟩:=List.mem_map.1 hx<;>split
 ·exact hy
 ·exact h.live z hz
 ·rename_i hk;have:=h.ids.2 z hz;simp only [beq_iff_eq] at hk;simp only;omega
 ·exact h.ids.2 z hz
theorem O8 {who:Int} (h:NF S w0 W (ah p st::bK p b t::R) L) (hhas:t.has who=false) :
 Calls Tryz.prog 14 #[vP b 0,vI who] W fun e w'=>e=.returned (vI 5)∧NF S w0 w' (ah p st::bK p b t::R) L:=by
 obtain ⟨a,ha,hw,h⟩:=cx h
 have CC:=Hi (Uz h hhas)
 obtain ⟨HA,HW⟩:=hi2 ha hw
 clear h ha hw hhas
 go_enter Tryz.func14,Tryz.ntmps14
 go_wp2_with fail
 refine CC.out.mono ?_
 rintro e w1 ⟨rfl,g⟩
 have F1:=Hi (g.alloc (cl #[vU 0,vU 0,vU 0] 98))
 clear g CC
 have r:=rl F1.out.mem.rules
 go_wp2_with fail
 go_ret
 exact ⟨rfl,fP HA.out HW.out (F1.out.sub (zq _ _))⟩
theorem Yr (h:NF S w0 W (ah p st::bK p b t::R) L) (hwl:w<t.aj.length) (jN:t.slots[w]?=some sl) (hin:(sl.cur.id,y)∈t.live) {c:af.pO} (hc:af.iu st y.out=(bO,c,0)) (hwf:({y with out:=c,sent:=0}:af.dm).Wf) :
 Calls Tryz.prog 14 #[vP b 0,vI w] W fun e w'=>e=.returned (vI 0)∧NF S w0 w' (ah p bO::bK p b {t with live:=af.lN t.live sl.cur.id {y with out:=c,sent:=0}}::R) L:=by
 obtain ⟨a,ha,hw,h⟩:=cx h
 have qb:=fV h
 have CC:=Hi (UA h ha hwl jN hin)
 obtain ⟨HA,HW,Hs,ox,HC,tR⟩:=Vn ha hw qb hin hc hwf
 clear h ha hw hwl jN qb hin hc hwf
 go_enter Tryz.func14,Tryz.ntmps14
 go_wp2_with fail
 refine CC.out.mono ?_
 rintro e w1 ⟨rfl,g⟩
 have F1:=Hi (g.alloc (cl #[vU sl.cur.id,vU sl.cur.to,vU sl.cur.born] 98))
 clear g CC
 have r:=rl F1.out.mem.rules
 obtain ⟨q,ol,oc,RR,g,hback⟩:=rJ ox.out F1.out
 have CO:=Hi (yE g (HW.out.live _ ox.out).1 HC.out)
 have mZ:=Hi hback
 clear g hback
 go_wp2_with fail
 refine CO.out.mono ?_
 rintro e w2 ⟨rfl,g⟩
 have g2:=mZ.out [] w2 bO {y with out:=c,sent:=0} _ rfl g
 have OS:=Hi g2
 clear g g2 CO mZ r
 go_wp2_with fail
 go_ret
 exact ⟨rfl,fP ⟨HA.out.cp,HA.out.cq,HA.out.kp,HA.out.kq,HA.out.pa,HA.out.aO,HA.out.slots⟩ (HW.out.lives tR.out) (OS.out.sub (zq _ _))⟩
theorem Yt (h:NF S w0 W (ah p st::bK p b t::R) L) (hwl:w<t.aj.length) (jN:t.slots[w]?=some sl) (hno:∀ x∈t.live,x.1≠sl.cur.id) (lu:sl.cur.id<18446744073709551616) :
 Calls Tryz.prog 15 #[vP b 0,vI w,vS text] W fun e w'=>e=.returned (.tuple #[.slice none 0 0,vI 7])∧NF S w0 w' (ah p st::bK p b t::R) L:=by
 obtain ⟨a,ha,hw,h⟩:=cx h
 have qb:=fV h
 have CC:=Hi (cur_no h ha hwl jN hno lu)
 obtain ⟨HA,HW,Hs⟩:=ju ha hw qb
 clear h ha hw hwl jN qb hno lu
 go_enter Tryz.func15,Tryz.ntmps15
 go_wp2_with fail
 refine CC.out.mono ?_
 rintro e w1 ⟨rfl,g⟩
 have F1:=Hi (g.alloc (cl #[vU 0,vU 0,vU 0] 98))
 clear g CC
 have r:=rl F1.out.mem.rules
 go_wp2_with fail
 go_ret2
 exact ⟨rfl,fP HA.out HW.out (F1.out.sub (zq _ _))⟩
theorem Yu (h:NF S w0 W (ah p st::bK p b t::R) L) (hwl:w<t.aj.length) (jN:t.slots[w]?=some sl) (hin:(sl.cur.id,y)∈t.live) {mm k:Nat} {os:List (List UInt8)} (hsent:y.sent=(mm:Int)) (hmm:mm<256) (Ml:y.out.aF=(ep:Int)) (hepb:ep<1000000) (hlen:text.length≤1000) (hto:sl.cur.to<18446744073709551616) (hcb:c<9223372036854775808) (hc:af.kg st y.out=(bO,k,0)) (hat:af.om bO k mm y.x.h text=(nu,c,0))
 (hpk:({t with live:=af.lN t.live sl.cur.id {y with sent:=y.sent+1}}:af.Pt).pack (af.iM sl.cur.to ep mm c)=({t with live:=af.lN t.live sl.cur.id {y with sent:=y.sent+1},messages:=(t.messages+1) % 18446744073709551616},os)) :
 Calls Tryz.prog 15 #[vP b 0,vI w,vS text] W fun e w'=>∃ v,e=.returned (.tuple #[v,vI 0])∧NF S w0 w' (bA v os::ah p nu::bK p b {t with live:=af.lN t.live sl.cur.id {y with sent:=y.sent+1},messages:=(t.messages+1) % 18446744073709551616}::R) L:=by
 obtain ⟨n1,G9⟩:∃ n1,(t.messages+1) % 18446744073709551616=n1:=⟨_,rfl⟩
 rw [G9] at hpk ⊢
 have Xq:=Hi (G9▸Nat.mod_lt _ aG:n1<18446744073709551616)
 clear G9
 have hw3:IntKind.u64.wrap (ep:Int)=(ep:Int):=u64_wrap_id _ (Ao _) ax
 have hw4:IntKind.u64.wrap (mm:Int)=(mm:Int):=u64_wrap_id _ (Ao _) ax
 have HDW:=Hi (af.dataW hto (by omega:ep<18446744073709551616) (by omega:mm<18446744073709551616) hcb)
 obtain ⟨HSE,yt,HEP,HLEN,HC,HAT,LS⟩:=PL hsent hmm Ml hlen hc hat hpk
 clear hsent hmm Ml hepb hlen hto hcb hc hat hpk
 obtain ⟨a,ha,hw,h⟩:=cx h
 have qb:=fV h
 have CC:=Hi (UA h ha hwl jN hin)
 obtain ⟨HA,HW,Hs,ox⟩:=hi4 ha hw qb hin
 clear h ha hw hwl jN qb hin
 go_enter Tryz.func15,Tryz.ntmps15
 go_wp2_with fail
 refine CC.out.mono ?_
 rintro e w1 ⟨rfl,g⟩
 have F1:=Hi (g.alloc (cl #[vU sl.cur.id,vU sl.cur.to,vU sl.cur.born] 98))
 clear g CC
 have r:=rl F1.out.mem.rules
 go_wp2_with fail
 obtain ⟨q,ol,oc,RR,g,hback⟩:=rJ ox.out F1.out
 have Ku:=HW.out.live _ ox.out
 have CO:=Hi (Xt g Ku.1 Ku.2.2.1 HSE.out yt.out HLEN.out HC.out HAT.out)
 have mZ:=Hi hback
 clear g hback
 rw [HEP.out] at CO
 refine CO.out.mono ?_
 rintro e w2 ⟨rfl,g⟩
 have g2:=mZ.out [] w2 nu {y with sent:=y.sent+1} _ rfl g
 obtain ⟨t2,gj⟩:∃ t2,t2=({t with live:=af.lN t.live sl.cur.id {y with sent:=y.sent+1}}:af.Pt):=⟨_,rfl⟩
 have Hq:a.ok t2:=c988
 have hW2:t2.Wf:=by rw [gj];exact HW.out.lives ⟨Ku.1,Ku.2.1,Ku.2.2.1,Ku.2.2.2.1,Ku.2.2.2.2.1,by have h0:0≤y.sent:=Ku.2.2.2.2.2;show 0≤y.sent+1;omega⟩
 have hP2:t2.pack (af.iM sl.cur.to ep mm c)=({t2 with messages:=n1},os):=by rw [gj];exact LS.out
 have g3:NF S w0 w2 (ah p nu::(cS a p t2++R)) ((b,cl (iz a p t2) 80)::(w1.heap.size,cl #[vU sl.cur.id,vU sl.cur.to,vU sl.cur.born] 98)::(a.rp,cl a.kp 65)::(a.rq,cl a.kq 110)::L):=by rw [gj];exact g2.perm (List.Perm.swap _ _ _)
 have PK:Hid (Calls Tryz.prog 29 #[vP b 0,.agg #[vI 4,vU 0,vU sl.cur.to,.string ⟨#[]⟩,vI 0,vI 0,vI 0,vI 0,vI 0,vI c,vI 0,vU ep,vU mm]] w2 fun e w'=>∃ v,e=.returned v∧NF S w0 w' (bA v os::ah p nu::(cS a p t2++R)) ((b,cl (iz a p {t2 with messages:=n1}) 80)::(w1.heap.size,cl #[vU sl.cur.id,vU sl.cur.to,vU sl.cur.born] 98)::(a.rp,cl a.kp 65)::(a.rq,cl a.kq 110)::L)):=Hi (by
  have PK0:=NF.pack g3 HDW.out hW2.messages hP2
  rw [dataC] at PK0
  exact PK0)
 have F2:=Hi (g3.perm (List.Perm.swap _ _ _))
 obtain ⟨wV,uf,VB⟩:=ju gj Hq hW2
 clear g g2 g3 CO mZ r F1 gj Hq hW2 hP2 Ku
 have r:=rl F2.out.mem.rules
 go_wp2_with fail
 refine PK.out.mono ?_
 rintro e w3 ⟨v,rfl,g⟩
 have g4:=vH (A:=[bA v os]) (a:=a) (t:={ t2 with messages:=n1}) (p:=p) (b:=b) (st:=nu) (R:=R) (L:=L) ⟨uf.out.cp,uf.out.cq,uf.out.kp,uf.out.kq,uf.out.pa,uf.out.aO,uf.out.slots⟩ (VB.out.msgs2 Xq.out) ((g.perm (List.Perm.swap _ _ _)).sub (zq _ _))
 rw [wV.out] at g4
 have HG:=Hi g4
 clear g g4 PK r F2
 go_wp2_with fail
 go_ret2
 exact ⟨v,rfl,HG.out⟩
end
end Go.Proofs.N0
namespace af
open Go.Proofs.N0
variable {k:Nat}
structure Core where
 me:Pair
 aj:List dG
 offer:List UInt8
 ak:Nat
 stamp:Nat
 guard:List (Option Nat)
 slots:List aS
 begun:List (Nat×pW)
 live:List (Nat×dm)
def Core.pt (c:Core) (size:Int) (ms:Nat):Pt:=⟨c.me,c.aj,c.offer,size,c.ak,ms,c.stamp,c.guard,List.replicate c.aj.length bN,c.slots,c.begun,c.live⟩
def lS (x:Int):Bool:=decide (-9223372036854775808≤x)&&decide (x≤9223372036854775807)
theorem cO {x:Int} (h:lS x=true):Int64 x:=by unfold lS at h;simp only [gi,decide_eq_true_eq] at h;exact h
def UB (q:cz):Bool:=lS q.y.ck&&lS q.y.k&&lS q.y.h&&decide (q.y.n<18446744073709551616)&&lS q.e&&lS q.ek&&decide (q.offer.length≤9223372036854775807)
theorem UC {q:cz} (h:UB q=true):q.Wf:=by unfold UB at h;simp only [gi,decide_eq_true_eq] at h;obtain ⟨⟨⟨⟨⟨⟨h1,h2⟩,h3⟩,h4⟩,h5⟩,h6⟩,h7⟩:=h;exact ⟨⟨cO h1,cO h2,cO h3,h4⟩,cO h5,cO h6,h7⟩
def Mn (y:dm):Bool:=lS y.out.key&&lS y.fX.key&&lS y.x.h&&decide (y.w.next<18446744073709551616)&&decide (y.w.bits<18446744073709551616)&&decide (0≤y.fX.aF)&&decide (0≤y.sent)
theorem Hw {y:dm} (h:Mn y=true):y.Wf:=by unfold Mn at h;simp only [gi,decide_eq_true_eq] at h;obtain ⟨⟨⟨⟨⟨⟨h1,h2⟩,h3⟩,h4⟩,h5⟩,h6⟩,h7⟩:=h;exact ⟨cO h1,cO h2,cO h3,⟨h4,h5⟩,h6,h7⟩
def peerB (q:dG):Bool:=lS q.jo.dh&&lS q.jo.cD&&lS q.p0&&lS q.p1
def Core.ok (c:Core):Bool:=lS c.me.dh&&lS c.me.cD&&c.aj.all peerB&&decide (c.aj.length≤8)&&decide (c.offer.length≤16)&&decide (1≤c.ak)&&decide (c.ak<18446744073709551615)&&decide (c.stamp<18446744073709551615) &&
 (c.begun.all fun x=>UB x.2.q&&decide (0≤x.2.peer)&&decide (x.2.peer<(c.aj.length:Int))&&decide (x.2.born<18446744073709551616)&&decide (x.1<c.ak))&&(c.live.all fun x=>Mn x.2&&decide (x.1≤c.ak))&&decide (c.begun.length<1000000)&&decide (c.live.length<1000000)&&decide (c.slots.length=c.aj.length)
structure Core.Ok (c:Core):Prop where
 wf:∀ (size:Int) (ms:Nat),8≤size→size≤1000→ms<18446744073709551616→(c.pt size ms).Wf
 ak:c.ak<18446744073709551615
 stamp:c.stamp<18446744073709551615
 begun:c.begun.length<1000000
 live:c.live.length<1000000
theorem Core.td {c:Core} (h:c.ok=true):c.Ok:=by
 unfold Core.ok at h;simp only [gi,decide_eq_true_eq,Bq] at h;obtain ⟨⟨⟨⟨⟨⟨⟨⟨⟨⟨⟨⟨h1,h2⟩,h3⟩,h4⟩,h5⟩,h6⟩,h7⟩,h8⟩,h9⟩,h10⟩,h11⟩,h12⟩,yJ⟩:=h;refine ⟨fun size ms hs1 hs2 hm=>⟨⟨cO h1,cO h2⟩,fun q hq=>?_,h4,h5,⟨hs1,hs2⟩,⟨h6,by show c.ak<_;omega⟩,hm,by show c.stamp<_;omega,fun x hx=>?_,fun x hx=>?_,fun x hx=>?_,fun x hx=>?_⟩,h7,h8,h11,h12⟩
 ·have:=h3 q hq
  unfold peerB at this
  simp only [gi] at this
  exact ⟨cO this.1.1.1,cO this.1.1.2,cO this.1.2,cO this.2⟩
 ·obtain ⟨⟨⟨⟨a1,a2⟩,a3⟩,a4⟩,a5⟩:=h9 x hx;exact ⟨UC a1,a2,a3,a4⟩
 ·exact Hw (h10 x hx).1
 ·exact (h9 x hx).2
 ·exact (h10 x hx).2
structure AZ where
 peer:Int
 text:List UInt8
 yes:Bool
 h:Int
 out:Option bJ
 code:Int
def pJ:AZ:=⟨0,[],false,0,none,0⟩
def bM (m:bJ) (ms:Nat) (size:Int):List (List UInt8):=((cut m.encode ms size).1).map bC.encode
def AZ.got (a:AZ) (ms:Nat) (size:Int):SN:=⟨a.peer,a.text,a.yes,a.h,(match a.out with
 | none=>[]
 | some m=>bM m ms size),a.code⟩
def AZ.ms (a:AZ) (ms:Nat):Nat:=match a.out with
 | none=>ms
 | some _=>ms+1
def UD (m:bJ):Bool:=([0,4,5,6,7,8,9,10].all fun c=>lS (m.v c))&&([1,2,11,12].all fun c=>decide (0≤m.v c)&&decide (m.v c≤18446744073709551615))&&decide (m.offer.length≤9223372036854775807)
theorem Yv {m:bJ} (h:UD m=true):m.Wf:=by unfold UD at h;simp only [gi,decide_eq_true_eq,Bq] at h;exact ⟨fun c hc=>cO (h.1.1 c hc),fun c hc=>h.1.2 c hc,h.2⟩
def Core.join (c:Core) (w:Nat) (o:One) (y:dm) (sl:aS):Core:={ c with slots:=c.slots.set w sl,live:=(aPut c.live o.id y).filter fun x=>(c.slots.set w sl).any fun s=>(s.find x.1).isSome}
theorem Core.Mo (c:Core) (w:Nat) (o:One) (y:dm) (sl:aS) (size:Int) (ms:Nat):(c.join w o y sl).pt size ms=(c.pt size ms).join w o y sl:=rfl
def short (m:bJ):Bool:=UD m&&decide (1≤m.encode.length)&&decide (m.encode.length≤128)
def Ky {α:Type} (b:Bool) (x:α):Option α:=if b=true then some x else none
theorem eJ {α:Type} {b:Bool} {x y:α} (h:Ky b x=some y):b=true∧x=y:=by
 unfold Ky at h;split at h
 ·rename_i hb;exact ⟨hb,Option.some.inj h⟩
 ·cases h
def Kz (st:Store) (c:Core) (m:bJ) (bW:Nat) (now:Nat) (d0 d1:Int):Option (Store×Core×AZ×Nat) :=
 let r:=xM st c.me c.aj c.offer m
 if r.2.2=11 then Ky (short (nK (m.v 1) 11)) (r.1,c,⟨bW,[],false,0,some (nK (m.v 1) 11),11⟩,0)
 else if r.2.2≠0 then some (r.1,c,pJ,r.2.2)
 else
  let o:=r.2.1
  let w:=o.peer.toNat
  if vX (c.guard.getD w none) o.stamp≠0 then Ky (decide (0≤o.peer)&&decide (w<c.aj.length)) (r.1,c,pJ,vX (c.guard.getD w none) o.stamp)
  else
   let a:=vA r.1 o c.ak (m.v 1) d0 d1
   let z:=a.2.2.1
   let one:One:=⟨c.ak,(m.v 1).toNat,now⟩
   let c2:=c.join w one (ic z) ((c.slots.getD w eL).theirs one)
   let c3:={ c2 with guard:=c2.guard.set w (some o.stamp),ak:=c2.ak+1}
   Ky (decide (0≤o.peer)&&decide (w<c.aj.length)&&decide (a.2.2.2=0)&&a.1.has z.h&&a.1.has z.send&&a.1.has z.recv&&c2.ok&&c3.ok&&lS d0&&lS d1&&(c.live.all fun y=>y.1 != c.ak)&&short a.2.1)
    (a.1,c3,⟨o.peer,[],false,z.h,some a.2.1,0⟩,0)
def KA (st:Store) (c:Core) (m:bJ) (now:Nat):Option (Store×Core×AZ×Nat) :=
 match ua c.begun (m.v 2).toNat with
 | none=>some (st,c,pJ,5)
 | some b =>
  let f:=vB st c.me b.q m
  let z:=f.2.1
  let w:=b.peer.toNat
  let one:One:=⟨(m.v 2).toNat,(m.v 1).toNat,now⟩
  let c2:=c.join w one (ic z) ((c.slots.getD w eL).mine one)
  let c3:={ c2 with begun:=Eu c2.begun (m.v 2).toNat}
  Ky (decide (f.2.2=0)&&f.1.has z.h&&f.1.has z.send&&f.1.has z.recv&&decide (0≤b.peer)&&decide (w<c.aj.length)&&(c.live.all fun y=>y.1 != (m.v 2).toNat)&&c2.ok&&c3.ok)
   (f.1,c3,⟨b.peer,[],false,z.h,none,0⟩,0)
def A7 (st:Store) (c:Core) (m:bJ):Option (Store×Core×AZ×Nat):=match ua c.begun (m.v 2).toNat with
 | none=>some (st,c,pJ,5)
 | some b=>some (st,c,⟨b.peer,[],false,0,none,m.v 5⟩,0)
def KB (st:Store) (c:Core) (m:bJ):Option (Store×Core×AZ×Nat) :=
 match ua c.live (m.v 2).toNat with
 | none=>some (st,c,pJ,5)
 | some y =>
  let n:=(m.v 12).toNat
  let b0:=decide (y.fX.aF=m.v 11)&&decide (m.v 11<1000000)&&decide (n<256)&&st.has (m.v 9)
  if y.w.can n=false then Ky b0 (st,c,pJ,12)
  else
   let f:=kg st y.fX
   let r:=oo f.1 f.2.1 n y.x.h (m.v 9)
   match (c.pt 8 1).whose (m.v 2).toNat with
   | none=>none
   | some wi =>
    let y2:dm:={ y with w:=⟨n+1,((y.w.bits <<< (n+1 - y.w.next)) % 18446744073709551616) ||| 1⟩}
    let c2:={ c with live:=lN c.live (m.v 2).toNat y2,slots:=c.slots.set wi ((c.slots.getD wi eL).heard (m.v 2).toNat)}
    Ky (b0&&decide (y.w.next≤n)&&decide (n+1 - y.w.next<64)&&decide (f.2.2=0)&&decide (r.2=0)&&c2.ok)
     (f.1,c2,⟨wi,r.1,true,y.x.h,none,0⟩,0)
def Hx (st:Store) (c:Core) (m:bJ) (bW:Nat) (now:Nat) (d0 d1:Int):Option (Store×Core×AZ×Nat) :=
 if UD m=false∨c.ok=false then none
 else if m.v 0=1 then Kz st c m bW now d0 d1
 else if m.v 0=2 then KA st c m now
 else if m.v 0=3 then A7 st c m
 else if m.v 0=4 then KB st c m
 else none
theorem nQ {α:Type} {l:List (Nat×α)} {v:α} (h:ua l k=some v):(k,v)∈l:=by unfold ua at h;obtain ⟨x,hx,rfl⟩:=Option.map_eq_some_iff.1 h;have h1:=List.mem_of_find?_eq_some hx;have h2:=List.find?_some hx;simp only [beq_iff_eq] at h2;rw [←h2];exact h1
theorem A8 {α:Type} {l:List (Nat×α)} (h:ua l k=none):∀ x∈l,x.1≠k:=fun x hx e=>by
 unfold ua at h
 have:=List.find?_eq_none.1 (Option.map_eq_none_iff.1 h) x hx
 simp [e] at this
theorem bJ.Wf.nat {m:bJ} (h:m.Wf) {c:Nat} (hc:c∈[1,2,11,12]):m.v c=((m.v c).toNat:Int):=by
 have:=(h.pT c hc).1
 omega
end af
namespace Go.Proofs.N0
open Go.RowKit Go.Maps Go.ChangeMaps
section
variable {S:List Nat} {w0 W:World} {p b:Nat} {L:List (Nat×Obj)} {R:List aW} {st bO:af.Store} {c c1:af.Core} {m:af.bJ} {an:af.AZ} {size:Int} {ms er now bW:Nat} {d0 d1:Int}
theorem vJ (h:ms<1000000):(ms+1) % 18446744073709551616=ms+1:=Nat.mod_eq_of_lt ax
theorem O9 (cP:af.Kz st c m bW now d0 d1=some (bO,c1,an,er)) (hok:c.Ok) (hm:m.Wf) (nY:ms<1000000) (cT:now<18446744073709551616) (h:NF S w0 W (ah p st::bK p b (c.pt size ms)::R) L) :
 Calls Tryz.prog 84 #[vP b 0,eY m bW now d0 d1] W (cI S w0 R L p b bO (c1.pt size (an.ms ms)) (an.got ms size) er):=by
 unfold af.Kz at cP
 obtain ⟨⟨s1,o,e1⟩,hr⟩:∃ r,af.xM st c.me c.aj c.offer m=r:=⟨_,rfl⟩
 rw [hr] at cP
 simp only at cP
 by_cases h11:e1=11
 ·subst h11
  rw [if_pos rfl] at cP
  obtain ⟨-,hx⟩:=af.eJ cP
  cases hx
  have:=Uc (er:=0) (now:=now) (bW:=bW) (d0:=d0) (d1:=d1) h hm hr rfl
  have e2:({c.pt size ms with messages:=((c.pt size ms).messages+1) % 18446744073709551616}:af.Pt)=c.pt size (ms+1):=by show af.Pt.mk _ _ _ _ _ ((ms+1) % 18446744073709551616) _ _ _ _ _ _=_;rw [vJ nY];rfl
  rw [e2] at this
  exact this
 ·rw [if_neg h11] at cP;by_cases h0:e1=0
  ·subst h0;rw [if_neg aH] at cP;split at cP
   ·rename_i hg;obtain ⟨hb,hx⟩:=af.eJ cP;cases hx;simp only [gi,decide_eq_true_eq] at hb;exact Ud (er:=0) (w:=o.peer.toNat) (t:=c.pt size ms) h hm hr (hm.nat aH) ax hb.2 rfl hg
   ·rename_i hg
    obtain ⟨⟨s2,mx,z,e2⟩,ha⟩:∃ r,af.vA s1 o c.ak (m.v 1) d0 d1=r:=⟨_,rfl⟩
    rw [ha] at cP
    simp only at cP
    obtain ⟨hb,hx⟩:=af.eJ cP
    cases hx
    simp only [gi,decide_eq_true_eq,Bq,bne_iff_ne,ne_eq] at hb
    obtain ⟨⟨⟨⟨⟨⟨⟨⟨⟨⟨⟨b1,b2⟩,b3⟩,b4⟩,b5⟩,b6⟩,b7⟩,b8⟩,b9⟩,b10⟩,b11⟩,b12⟩:=hb
    subst b3
    have hw2:=af.Core.td b7
    have hw3:=af.Core.td b8
    have hsz:=(hok.wf)
    obtain ⟨a,ha9,hwf,-⟩:=cx h
    have hs:=hwf.size
    have:=Yc (er:=0) (w:=o.peer.toNat) (t:=c.pt size ms) (now:=now) (bW:=bW) h hm hr (hm.nat aH) ax b2 (Decidable.not_not.1 hg) ⟨af.cO b9,af.cO b10⟩ ha ⟨b4,b5,b6⟩ hok.live b11 rfl (hw2.wf size ms hs.1 hs.2 ax) hw2.ak rfl (by
     have:=hw3.wf size (ms+1) hs.1 hs.2 ax
     rw [←af.Core.Mo]
     show af.Pt.Wf (af.Pt.mk _ _ _ _ _ ((ms+1) % 18446744073709551616) _ _ _ _ _ _)
     rw [vJ nY];exact this)
    rw [←af.Core.Mo] at this
    have e3:∀ (c2:af.Core),({c2.pt size ms with guard:=(c2.pt size ms).guard.set o.peer.toNat (some o.stamp),ak:=(c2.pt size ms).ak+1,messages:=((c2.pt size ms).messages+1) % 18446744073709551616}:af.Pt)=({c2 with guard:=c2.guard.set o.peer.toNat (some o.stamp),ak:=c2.ak+1}:af.Core).pt size (ms+1):=fun c2=>by show af.Pt.mk _ _ _ _ _ ((ms+1) % 18446744073709551616) _ _ _ _ _ _=_;rw [vJ nY];rfl
    rw [e3] at this
    have e4:((o.peer.toNat:Nat):Int)=o.peer:=ax
    rw [e4] at this
    exact this
  ·rw [if_pos (by simpa using h0)] at cP;cases cP;exact Ub h hm hr h0 h11
theorem Pa (cP:af.KA st c m now=some (bO,c1,an,er)) (hok:c.Ok) (hm:m.Wf) (nY:ms<1000000) (cT:now<18446744073709551616) (h:NF S w0 W (ah p st::bK p b (c.pt size ms)::R) L) :
 Calls Tryz.prog 85 #[vP b 0,eY m bW now d0 d1] W (cI S w0 R L p b bO (c1.pt size (an.ms ms)) (an.got ms size) er):=by
 unfold af.KA at cP
 split at cP
 ·rename_i hg;cases cP;exact O1 (t:=c.pt size ms) h hm (hm.nat aH) (hm.nat aH) (af.A8 hg)
 ·rename_i bg hg
  obtain ⟨⟨s1,z,e1⟩,hr⟩:∃ r,af.vB st c.me bg.q m=r:=⟨_,rfl⟩
  rw [hr] at cP
  simp only at cP
  obtain ⟨hb,hx⟩:=af.eJ cP
  cases hx
  simp only [gi,decide_eq_true_eq,Bq,bne_iff_ne,ne_eq] at hb
  obtain ⟨⟨⟨⟨⟨⟨⟨⟨b1,b2⟩,b3⟩,b4⟩,b5⟩,b6⟩,b7⟩,b8⟩,b9⟩:=hb
  subst b1
  obtain ⟨a,ha9,hwf,-⟩:=cx h
  have hs:=hwf.size
  have:=Yi (w:=bg.peer.toNat) (t:=c.pt size ms) (now:=now) (bW:=bW) (d0:=d0) (d1:=d1) h hm (hm.nat aH) (hm.nat aH) (af.nQ hg) ax b6 hr ⟨b2,b3,b4⟩ b7 hok.live rfl ((af.Core.td b8).wf size ms hs.1 hs.2 ax) ((af.Core.td b9).wf size ms hs.1 hs.2 ax)
  have e4:((bg.peer.toNat:Nat):Int)=bg.peer:=ax
  rw [e4] at this
  exact this
theorem Hy (cP:af.A7 st c m=some (bO,c1,an,er)) (hm:m.Wf) (h:NF S w0 W (ah p st::bK p b (c.pt size ms)::R) L) :
 Calls Tryz.prog 86 #[vP b 0,eY m bW now d0 d1] W (cI S w0 R L p b bO (c1.pt size (an.ms ms)) (an.got ms size) er):=by
 unfold af.A7 at cP
 split at cP
 ·rename_i hg;cases cP;exact Ul (t:=c.pt size ms) h hm (hm.nat aH) (hm.nat aH) (af.A8 hg)
 ·rename_i bg hg
  cases cP
  obtain ⟨a,ha9,hwf,-⟩:=cx h
  have hb:=(hwf.begun _ (af.nQ hg)).2.1
  have:=rej_ok (w:=bg.peer.toNat) (t:=c.pt size ms) (now:=now) (bW:=bW) (d0:=d0) (d1:=d1) h hm (hm.nat aH) (hm.nat aH) (af.nQ hg) (by simp only at hb;omega)
  have e4:((bg.peer.toNat:Nat):Int)=bg.peer:=by simp only at hb;omega
  rw [e4] at this
  exact this
theorem Pb (cP:af.KB st c m=some (bO,c1,an,er)) (hok:c.Ok) (hm:m.Wf) (nY:ms<1000000) (h:NF S w0 W (ah p st::bK p b (c.pt size ms)::R) L) :
 Calls Tryz.prog 87 #[vP b 0,eY m bW now d0 d1] W (cI S w0 R L p b bO (c1.pt size (an.ms ms)) (an.got ms size) er):=by
 have n11:=(hm.pT 11 aH).1
 have n12:=(hm.pT 12 aH).1
 unfold af.KB at cP
 split at cP
 ·rename_i hg;cases cP;exact O3 (t:=c.pt size ms) h hm (hm.nat aH) (hm.nat aH) (hm.nat aH) rfl (af.A8 hg)
 ·rename_i y hg;obtain ⟨a,ha9,hwf,-⟩:=cx h;have hs:=hwf.size;simp only at cP;split at cP
  ·rename_i hcan;obtain ⟨hb,hx⟩:=af.eJ cP;cases hx;simp only [gi,decide_eq_true_eq] at hb;exact Uo (t:=c.pt size ms) h hm (hm.nat aH) (hm.nat aH) (hm.nat aH) rfl (af.nQ hg) ax ax hb.1.2 hb.2 hcan
  ·obtain ⟨⟨s1,k1,e1⟩,hf⟩:∃ r,af.kg st y.fX=r:=⟨_,rfl⟩
   rw [hf] at cP;simp only at cP;obtain ⟨⟨tx,e2⟩,hr⟩:∃ r,af.oo s1 k1 (m.v 12).toNat y.x.h (m.v 9)=r:=⟨_,rfl⟩
   rw [hr] at cP;simp only at cP;split at cP
   ·cases cP
   ·rename_i wi hwi;obtain ⟨hb,hx⟩:=af.eJ cP;cases hx;simp only [gi,decide_eq_true_eq] at hb;obtain ⟨⟨⟨⟨⟨⟨⟨⟨b1,b2⟩,b3⟩,b4⟩,b5⟩,b6⟩,b7⟩,b8⟩,b9⟩:=hb;subst b7 b8;exact Yn (t:=c.pt size ms) h hm (hm.nat aH) (hm.nat aH) (hm.nat aH) rfl (af.nQ hg) ax ax b3 b4 b5 b6 rfl hf hr hwi ((af.Core.td b9).wf size ms hs.1 hs.2 ax)
end
end Go.Proofs.N0
namespace Go.Proofs.N0
open Go.RowKit Go.Maps Go.ChangeMaps
variable {n:Nat}
theorem xm {α:Type} (f:α→α):∀ (l:List α) (j:Nat) {x:α},((l.take j).map f++l.drop j)[j]?=some x→((l.take (j+1)).map f++l.drop (j+1))=((l.take j).map f++l.drop j).set j (f x)
 | [],j,x,h=>by simp at h
 | y::l,0,x,h=>by simp at h;subst h;simp
 | y::l,j+1,x,h=>by
  have:=xm f l j (x:=x) DN
  simp only [List.take_succ_cons,jQ,List.drop_succ_cons,bQ,jr,this]
theorem KC {m:List (Nat×Value)} {i:Nat} {s:Value} (hn:(m.map (·.1)).Nodup) (hx:(i,s)∈m):(m.filter fun p=>!(p.1==i)).length+1=m.length:=by
 induction m with
 | nil=>simp at hx
 | cons y m ih =>
  simp only [jQ,uM] at hn;by_cases e:y.1=i
  ·have h2:m.filter (fun p=>!(p.1==i))=m:=List.filter_eq_self.2 fun z hz=>by have:z.1≠i:=fun h=>hn.1 c995;simpa using this
   have e':(y.1==i)=true:=Ip;simp only [oO,e',Bool.not_true,dY,if_false,h2,yQ]
  ·have hx2:(i,s)∈m:=by exact SU
   have h2:=ih hn.2 hx2;have e':(y.1==i)=false:=Ip;simp only [oO,e',nS,if_true,yQ,h2]
def UE (v:Value):Nat:=match v with
 | .agg cs=>match cs[8]? with
  | some (Value.int _ k)=>k.toNat
  | _=>0
 | _=>0
def Ba (now:Nat) (x:Nat×Value):Bool:=!(decide (UE x.2<now)&&decide (50<now - UE x.2))
theorem Bd (now:Nat) (l:List (Nat×af.pW)):(bU l).filter (Ba now)=bU (l.filter fun (x:Nat×af.pW)=>!x.2.old now):=by unfold bU;rw [List.filter_map];rfl
def rL (w:World) (mb r:Nat) (l:List (Nat×Value)) (keep:Nat×Value→Bool) (nv:Value) (wr:World):Prop :=
 ∃ left cnt D m,m=l.filter (fun x=>keep x||left (aV x.1))∧wr.ranges Tryz.prog 31 cK mb r l.length D left cnt∧bq aV kW D m∧(∀ kl,left kl=true→∃ i,kl=aV i)∧az [mb] w wr∧nv=vI (l.length - m.length:Nat)
section
variable {w wr w' w2 w3:World} {mb r cnt cnt2 i:Nat} {l m:List (Nat×Value)} {keep:Nat×Value→Bool} {left:Lit→Bool} {D:DataW Value} {s:Value}
theorem rL.start {D:DataW Value} (h1:bq aV kW D l) (hr:w'.ranges Tryz.prog 31 cK mb r l.length D (fun kl=>Maps.has D kl) cnt) (hg:w.grownBy w' none):rL w mb r l keep (vI 0) w':=by refine ⟨_,cnt,D,l,?_,hr,h1,h1.only,az.grown hg aH,aH⟩;symm;refine List.filter_eq_self.2 fun x hx=>?_;exact ZH
theorem rL.kept (hn:(l.map (·.1)).Nodup) (hm:m=l.filter fun x=>keep x||left (aV x.1)) (hr:wr.ranges Tryz.prog 31 cK mb r l.length D left cnt) (hM:bq aV kW D m) (hk:∀ kl,left kl=true→∃ i,kl=aV i) (ht:az [mb] w wr) (hrw:w.heap.size≤r)
 (hx:(i,s)∈m) (hks:keep (i,s)=true) (hr2:w2.ranges Tryz.prog 31 cK mb r l.length D (fun z=>left z&&!z.sameKey (aV i)) cnt2) (hc:cnt2<cnt) (hg:wr.grownBy w2 (some r)) (hb:Below w2.heap.size w2 w3) :
 rL w mb r l keep (vI (l.length - m.length:Nat)) w3∧w3.rangeLeft mb r<wr.rangeLeft mb r:=by
 have hr3:=hr2.same (hb.block mb hr2.owns.lt) (hb.block r hr2.lt)
 refine ⟨⟨_,cnt2,D,m,(CY hn hm hx hks).symm,hr3,hM,fun kl h=>hk kl GK,?_,rfl⟩,c975⟩
 refine (ht.trans (az.grown (S:=[r]) hg (fun j e=>.inl nX)) (fun j e=>.inr Ap)).trans (az.below (S:=[]) hb) (fun j e=>absurd e aH)
theorem rL.gone (hn:(l.map (·.1)).Nodup∧∀ x∈l,x.1<18446744073709551616) (hm:m=l.filter fun x=>keep x||left (aV x.1)) (hr:wr.ranges Tryz.prog 31 cK mb r l.length D left cnt) (hM:bq aV kW D m) (hk:∀ kl,left kl=true→∃ i,kl=aV i) (ht:az [mb] w wr) (hrw:w.heap.size≤r)
 (hx:(i,s)∈m) (hks:keep (i,s)=false) (hr2:w2.ranges Tryz.prog 31 cK mb r l.length D (fun z=>left z&&!z.sameKey (aV i)) cnt2) (hc:cnt2<cnt) (hg:wr.grownBy w2 (some r)) (hb:Below w2.heap.size w2 w3) {mt e:TypeId} (hu:Tryz.prog.underlying mt=some (.map 31 e)) (ty:TypeId) :
 ∃ w4,(Builtin.delete_ #[mt,31] ty #[.map (some mb),vU i]).run Tryz.prog w3=.ok (.tuple #[]) w4∧az [mb] w w4∧rL w mb r l keep (vI ((l.length - m.length:Nat)+1:Int)) w4∧w4.rangeLeft mb r<wr.rangeLeft mb r:=by
 have hr3:=hr2.same (hb.block mb hr2.owns.lt) (hb.block r hr2.lt)
 have hil:i<18446744073709551616:=hn.2 (i,s) c976
 obtain ⟨w4,Tg,hrun,hr4,hle,hmt⟩:=hr3.drop mX hu (iy hil) ty
 rw [AR] at hr4
 have hmn:(m.map (·.1)).Nodup:=c977
 have hml:m.length≤l.length:=by rw [hm];exact lG _ _
 have jN:=KC hmn hx
 have hM4:=hM.del kV hmn i
 rw [←xh hn.1 hm hx hks] at hM4
 rw [←xh hn.1 hm hx hks] at jN
 have hmb:mb∈[mb]:=ud _
 have hT4:az [mb] w w4:=((ht.trans (az.grown (S:=[r]) hg (fun j e=>.inl nX)) (fun j e=>.inr Ap)).trans (az.below (S:=[]) hb) (fun j e=>absurd e aH)).trans (az.grown (S:=[mb]) hmt.grown (fun j e=>.inl nX)) (fun j e=>.inl e)
 refine ⟨w4,hrun,hT4,⟨_,Tg,_,_,rfl,hr4,hM4,fun kl h=>hk kl GK,hT4,?_⟩,by rw [hr4.left_eq,hr.left_eq];omega⟩
 exact congrArg (Value.int .i64) ax
end
section
variable {S:List Nat} {w0 W:World} {p b:Nat} {L:List (Nat×Obj)} {R:List aW} {t:af.Pt} {st bO nu:af.Store} {a:rT}
theorem _root_.af.Pt.Wf.kept (h:t.Wf):t.kept.Wf :=
 ⟨h.me,h.aj,h.many,h.offer,h.size,h.ak,h.messages,h.stamp,h.begun,fun x hx=>h.live x (List.mem_filter.1 hx).1,h.ids.1,fun x hx=>h.ids.2 x (List.mem_filter.1 hx).1⟩
theorem NF.KD {q now:Nat} {pl xU:af.aP} (h:NF S w0 W (dB q pl::R) L) (hok:pl.Ok) (cT:now<18446744073709551616) (hr:pl.expire now=xU) :
 Calls Tryz.prog 42 #[vP q 0,vU now] W fun e w'=>e=.returned (vI (pl.l.length - xU.l.length:Nat))∧NF S w0 w' (dB q xU::R) L :=
 h.Hu fun A hA=>by obtain ⟨mb,A2,D,hc,ho,rfl⟩:=hA;exact (fS W hc ho hok cT).mono (by rintro e w' ⟨rfl,S',h1,h2,h3⟩;subst hr;exact ⟨rfl,S',h1,fun i hi=>.inl (h2 i hi),h3⟩)
theorem NF.keptO (ha:a.ok t) (hw:t.Wf) (qc:t.live.length<9223372036854775808) (h:NF S w0 W (ah p st::(cS a p t++R)) (cN a p b t++L)) :
 Calls Tryz.prog 44 #[vP b 0] W fun e w'=>e=.returned (vI (t.live.length - t.kept.live.length:Nat))∧NF S w0 w' (ah p st::bK p b t.kept::R) L:=by
 have hrow:=EO ha h
 have CK:=AU (p:=p) (h.lD (x:=(b,_)) TG) (h.kY (mb:=a.lb) (l:=cu a.la t.live) AO) hrow.1 hrow.2 (by rw [←ha.slots]) hw.many (by unfold cu;rw [Fw];exact qc)
 refine CK.mono ?_
 rintro e w6 ⟨rfl,VD,ht6⟩
 rw [xj] at VD ⊢
 have g:=h
 unfold cS at g
 haveI:DecidableEq aW:=fun _ _=>Classical.propDecidable _
 have g1:=((g.bP (yO _ _ _ _ _ _ _)).lR VD ht6).subR (R':=dz a.lb (cu a.la t.kept.live)::ah p st::bw a.g t.guard t.aj.length::dz a.mb (bU t.begun)::((List.zipWith dF a.pa (t.aO.zip t.slots)++t.kept.live.map fun x=>dA p (a.la x.1) x.2)++R)) (by
  refine List.Sublist.cons_cons _ (List.Sublist.cons_cons _ (List.Sublist.cons_cons _ (List.Sublist.cons_cons _ ?_)))
  exact (List.Sublist.append_left (List.filter_sublist.map _) _).append_right _)
 have g2:=g1.bP (yO _ _ _ _ _ _ _).symm
 refine ⟨?_,fP (a:=a) (t:=t.kept) ⟨ha.cp,ha.cq,ha.kp,ha.kq,ha.pa,ha.aO,ha.slots⟩ hw.kept g2⟩
 unfold cu
 simp only [Fw]
 rfl
def je (now j:Nat) (t:af.Pt):af.Pt:={ t with aO:=(t.aO.take j).map (fun (x:af.aP)=>x.expire now)++t.aO.drop j,slots:=(t.slots.take j).map (fun (s:af.aS)=>s.expire now 1000)++t.slots.drop j}
theorem Pc {now j:Nat} (h:a.ok t):a.ok (je now j t):=by
 refine ⟨h.cp,h.cq,h.kp,h.kq,h.pa,?_,?_⟩
 ·show _=t.aj.length;rw [←h.aO];unfold je;simp;omega
 ·show _=t.aj.length;rw [←h.slots];unfold je;simp;omega
theorem KE {now:Nat} (hp:t.aO.length=n) (hs:t.slots.length=n):je now n t={ t with aO:=t.aO.map (fun (x:af.aP)=>x.expire now),slots:=t.slots.map (fun (s:af.aS)=>s.expire now 1000)}:=by unfold je;rw [BD ax,BD ax,List.drop_of_length_le ax,List.drop_of_length_le ax];simp
def UF (S:List Nat) (w0:World) (p b:Nat) (a:rT) (st:af.Store) (t:af.Pt) (R:List aW) (L:List (Nat×Obj)) (now:Nat) (iv:Value) (wr:World):Prop :=
 ∃ j,iv=vI (j:Nat)∧j≤t.aj.length∧NF S w0 wr (ah p st::(cS a p (je now j t)++R)) (cN a p b t++L)
theorem Yw {now:Nat} {t2:af.Pt} (h:NF S w0 W (ah p st::bK p b t::R) L) (cT:now<18446744073709551616) (hbl:t.begun.length<1000000) (qc:t.live.length<1000000) (ht:af.JV t now=(t2,n)) :
 Calls Tryz.prog 22 #[vP b 0,vU now] W fun e w'=>e=.returned (vI n)∧NF S w0 w' (ah p st::bK p b t2::R) L:=by
 obtain ⟨a,ha,hw,h⟩:=cx h
 have hma:=h.kY (mb:=a.mb) (l:=bU t.begun) AO
 have hbb:=h.lD (x:=(b,Obj.cells (iz a p t) 80 (0,0))) TG
 unfold iz at hbb
 have HMA:=Hi hma
 have Ln:=Hi hbb
 have M0:=Hi ((Mem.start W).with hbb)
 obtain ⟨HF,HA,HW,HT,HBLN,Ua,Uy⟩:=PL h ha hw ht hbl qc cT
 obtain ⟨hkeys,D0,rF,hm0⟩:=hma
 obtain ⟨HK,NR,N3⟩:=ju hkeys hm0 rF
 clear hkeys hm0 rF hbb h ha hw ht hbl qc
 have r:=rl M0.out.rules
 go_enter Tryz.func22,Tryz.ntmps22
 go_wp2_with (at_range;refine wpList_range_own _ rfl _ 77 rfl 31 90 mX Tryz.underlying77 _ a.mb (bU t.begun).length D0 rfl N3.out ?_;intro w1 hrg0 hg0 hs0)
 have TQ:=Hi (rL.start (w:=W) (keep:=Ba now) NR.out hrg0 hg0)
 clear r hrg0 hg0 hs0
 try go_frame
 go_loopw [5] (fun nv wr=>rL W a.mb W.heap.size (bU t.begun) (Ba now) nv wr) (fun _ wr=>wr.rangeLeft a.mb W.heap.size)
 case atStart=>exact TQ.out
 case round =>
  obtain ⟨left,cnt,D,ml,hm,hrg,hM,hk,htu,rfl⟩:=hrel;obtain ⟨nd,qb⟩:∃ nd,(bU t.begun).length - ml.length=nd:=⟨_,rfl⟩
  have hml:ml.length≤(bU t.begun).length:=by rw [hm];exact lG _ _
  have hndl:nd<1000000:=by have:=HBLN.out;unfold bU at qb;rw [Fw] at qb;omega
  have Hs:=Hi qb;obtain ⟨sw,wU,yt,Kn,Mg⟩:=vT hm hrg hM hk htu;rw [qb];clear hm hrg hM hk htu TQ qb hml;go_wp2_with (at_next;refine rW _ rfl _ rfl a.mb W.heap.size (bU t.begun).length D left cnt _ rfl wU.out yt.out Kn.out ?_ ?_)
  ·intro hl0
   have hmm:ml=bU (t.begun.filter fun (x:Nat×af.pW)=>!x.2.old now):=by rw [←Bd,sw.out];refine yX fun x _=>?_;rw [hl0];simp
   have js:=xg HK.out sw.out wU.out yt.out hl0
   rw [Bd] at js
   obtain ⟨t1,J3⟩:∃ t1,t1=({t with begun:=t.begun.filter fun (x:Nat×af.pW)=>!x.2.old now}:af.Pt):=⟨_,rfl⟩
   have hnd2:nd=t.begun.length - t1.begun.length:=by rw [←Hs.out,hmm,J3];unfold bU;simp only [Fw]
   have g:=HF.out
   unfold cS at g
   have g1:=((g.bP (tE (l₁:=[_,_]))).lR js Mg.out).bP (tE (l₁:=[_,_])).symm
   have F1:Hid (NF S w0 wr (ah p st::(cS a p t1++R)) (cN a p b t1++L)):=Hi (by rw [J3];exact g1)
   have hA1:a.ok t1:=by rw [J3];exact ⟨HA.out.cp,HA.out.cq,HA.out.kp,HA.out.kq,HA.out.pa,HA.out.aO,HA.out.slots⟩
   have hW1:t1.Wf:=by rw [J3];have hw:=HW.out;exact ⟨hw.me,hw.aj,hw.many,hw.offer,hw.size,hw.ak,hw.messages,hw.stamp,fun x hx=>hw.begun x (List.mem_filter.1 hx).1,hw.live,fun x hx=>hw.ids.1 x (List.mem_filter.1 hx).1,hw.ids.2⟩
   have hpl:t1.aj.length≤8:=hW1.many
   obtain ⟨HA1,HW1,HND2,sW⟩:=hi4 hA1 hW1 hnd2 J3
   have IA:Hid (UF S w0 p b a st t1 R L now (vI 0) wr):=Hi ⟨0,rfl,pR _,by
    have:je now 0 t1=t1:=by unfold je;simp
    rw [this];exact F1.out⟩
   have h1:=F1.out
   unfold cN iz at h1
   simp only [bQ,bG] at h1
   have F1b:=Hi h1
   clear h1 hl0 hmm js g g1 hA1 hW1 J3 hnd2 F1
   have r:=rl F1b.out.mem.rules
   go_wp2_with fail
   clear r F1b
   go_loopw [43] (fun iv wr=>UF S w0 p b a st t1 R L now iv wr) (fun iv _=>t1.aj.length - (intOf iv).toNat)
   case atStart=>exact IA.out
   case round =>
    clear IA;obtain ⟨j,rfl,hjl,hF⟩:=hrel;by_cases hlt:j<t1.aj.length
    ·have e1:decide ((j:Int)<(t1.aj.length:Int))=true:=aR;obtain ⟨k,q,pl,sl,hk,hpl2,jN,hok,g,hback⟩:=kZ (w:=j) (Pc (now:=now) (j:=j) HA1.out) hlt hF;obtain ⟨yP,pI⟩:∃ yP,yP=(bB a (je now j t1)).eraseIdx j++iN a p (je now j t1) R:=⟨_,rfl⟩
     rw [←pI] at g;obtain ⟨qf,uj⟩:∃ qf,sl.expire now 1000=qf:=⟨_,rfl⟩
     obtain ⟨xU,Yx⟩:∃ xU,pl.expire now=xU:=⟨_,rfl⟩
     have CT:Hid (∀ W,Calls Tryz.prog 43 #[oK sl,vU now,vU 1000] W fun e w'=>e=.returned (oK qf)∧Below W.heap.size W w'):=Hi fun W=>EJ (age:=1000) uj Uy.out W;unfold oK at CT;unfold dD at g;have F2:Hid (NF S w0 wr (dB q pl::ah p st::yP) ((k,cl (oI q sl) 109)::(b,cl (jt p a t1) 80)::(a.rp,cl a.kp 65)::(a.rq,cl a.kq 110)::L)):=Hi g;have CE:=Hi (F2.out.KD hok Uy.out Yx);have Ke:xU.Ok:=by rw [←Yx];exact Kb hok _
     have HPE:Hid ((je now (j+1) t1).aO=(je now j t1).aO.set j xU):=Hi (by rw [←Yx];exact xm (fun (x:af.aP)=>x.expire now) t1.aO j hpl2);have HSE:Hid ((je now (j+1) t1).slots=(je now j t1).slots.set j qf):=Hi (by rw [←uj];exact xm (fun (s:af.aS)=>s.expire now 1000) t1.slots j jN);obtain ⟨XA,mZ,BL⟩:=ju Ke hback pI;have yp:=(F2.out.mem).rV (g:=a.rq) (T:=110) aH HA1.out.kq hk ⟨_,Below.refl _ _⟩;simp only at yp;have hw1:(j:Int)<(t1.aj.length:Int):=ax;have hw2:(0:Int)≤(j:Int):=ax;clear g hk hpl2 jN hok hback pI uj Yx Ke hF;have r:=rl F2.out.mem.rules;go_wp2_with fail;clear r;refine CE.out.mono ?_;rintro e w4 ⟨rfl,g⟩;have F3:=Hi g;clear g CE F2 yp e1;have r:=rl F3.out.mem.rules;go_wp2_with fail;clear r;refine (CT.out _).mono ?_;rintro e w5 ⟨rfl,hb5⟩;have F3b:=Hi (F3.out.later hb5);have F4:=Hi (NF.qu (B:=[]) (vU qf.prev.id) (vU qf.prev.to) (vU qf.prev.born) (vU qf.cur.id) (vU qf.cur.to) (vU qf.cur.born) (vU qf.next.id) (vU qf.next.to) (vU qf.next.born) F3b.out);simp only [bG] at F4;clear hb5 CT F3;have g1:=mZ.out [] _ st xU qf a (je now (j+1) t1) R _ XA.out rfl HPE.out HSE.out (by have:=F4.out;rw [BL.out] at this;exact this);have HR:Hid (UF S w0 p b a st t1 R L now (vI ((j:Int)+1)) _):=Hi ⟨j+1,ym,ax,g1⟩;have r:=rl F3b.out.mem.rules;clear g1 F4 mZ;exact Hz
    ·obtain rfl:j=t1.aj.length:=ax;have e1:decide ((t1.aj.length:Int)<(t1.aj.length:Int))=false:=aH;rw [KE HA1.out.aO HA1.out.slots] at hF;obtain ⟨t3,Bj⟩:∃ t3,t3=({t1 with aO:=t1.aO.map (fun (x:af.aP)=>x.expire now),slots:=t1.slots.map (fun (s:af.aS)=>s.expire now 1000)}:af.Pt):=⟨_,rfl⟩
     have hA3:a.ok t3:=by rw [Bj];have ha:=HA1.out;exact ⟨ha.cp,ha.cq,ha.kp,ha.kq,ha.pa,by simp only [Fw];exact ha.aO,by simp only [Fw];exact ha.slots⟩
     have hW3:t3.Wf:=by rw [Bj];have hw:=HW1.out;exact ⟨hw.me,hw.aj,hw.many,hw.offer,hw.size,hw.ak,hw.messages,hw.stamp,hw.begun,hw.live,hw.ids⟩
     have hl3:t3.live.length<1000000:=by rw [Bj,sW.out];exact Ua.out
     have F5:NF S w0 wr (ah p st::(cS a p t3++R)) (cN a p b t3++L):=by rw [←Bj] at hF;rw [show cN a p b t3=cN a p b t1 by rw [Bj];rfl];exact hF
     have CK:=Hi (NF.keptO hA3 hW3 ax F5);obtain ⟨nk,hnk⟩:∃ nk,t3.live.length - t3.kept.live.length=nk:=⟨_,rfl⟩
     rw [hnk] at CK;have hw:IntKind.i64.wrap ((nd:Int)+(nk:Int))=((nd+nk:Nat):Int):=by push_cast;exact IntWalk.i64_in _ ax
     have nB:Hid (t3.kept=t2∧nd+nk=n):=Hi (by
      have h2:=HT.out
      unfold af.JV at h2
      have h3:t3=({t with begun:=t.begun.filter fun (x:Nat×af.pW)=>!x.2.old now,aO:=t.aO.map fun (x:af.aP)=>x.expire now,slots:=t.slots.map fun (s:af.aS)=>s.expire now 1000}:af.Pt):=by rw [Bj,sW.out]
      simp only [←h3] at h2
      obtain ⟨h4,h5⟩:=Prod.mk.inj h2
      refine ⟨h4,?_⟩
      have h7:t1.begun=t.begun.filter fun (x:Nat×af.pW)=>!x.2.old now:=by rw [sW.out]
      rw [←h5,←hnk,HND2.out,h7,show t3.live=t.live by rw [h3]])
     clear hF Bj hA3 hW3 F5 hnk hl3;go_wp2_with fail;refine CK.out.mono ?_;rintro e w6 ⟨rfl,g⟩;have F6:=Hi g;clear g CK;go_wp2_with fail;go_ret;exact ⟨by rw [←nB.out.2];rfl,by rw [←nB.out.1];exact F6.out⟩
  ·intro i s w2 cnt2 hin BU hrg2 hlt hg2 hs2 hen;obtain ⟨bg,hbm,rfl⟩:∃ bg:af.pW,bg.born<18446744073709551616∧pg bg=s:=by
    have:=hin
    rw [sw.out] at this
    obtain ⟨y,hy,e⟩:=List.mem_map.1 (List.mem_filter.1 this).1
    cases e
    exact ⟨y.2,(HW.out.begun y hy).2.2.2,rfl⟩
   have IB:az [a.mb] W w2:=Mg.out.trans (az.grown (S:=[W.heap.size]) hg2 (fun j e=>.inl nX)) (fun j e=>.inr Ap);have hb2:=fU Ln.out HMA.out IB;obtain ⟨ox,pX,pP,OS⟩:=hi4 hin hrg2 hlt hg2;have RS:pg bg=.agg #[vI bg.peer,vI bg.q.y.ck,vI bg.q.y.k,vI bg.q.y.h,vU bg.q.y.n,vI bg.q.e,vI bg.q.ek,vS bg.q.offer,vU bg.born]:=rfl;rw [RS] at hen ⊢;have M1:=Hi (((Mem.start w2).with hb2).alloc (cl #[vI bg.peer,vI bg.q.y.ck,vI bg.q.y.k,vI bg.q.y.h,vU bg.q.y.n,vI bg.q.e,vI bg.q.ek,vS bg.q.offer,vU bg.born] 90));have od:=Hi ((Below.refl w2.heap.size w2).alloc (cC _) (cl #[vI bg.peer,vI bg.q.y.ck,vI bg.q.y.k,vI bg.q.y.h,vU bg.q.y.n,vI bg.q.e,vI bg.q.ek,vS bg.q.offer,vU bg.born] 90));clear IB hb2 hin BU hrg2 hlt hg2 hs2 RS;have UG:Ba now (i,pg bg)=!(decide (bg.born<now)&&decide (50<now - bg.born)):=rfl;have r:=rl M1.out.rules;by_cases hp:bg.born<now
   ·have e1:decide ((bg.born:Int)<(now:Int))=true:=aR;obtain ⟨df,hdf⟩:∃ df,now - bg.born=df:=⟨_,rfl⟩
    have hwr:IntKind.u64.wrap ((now:Int) - (bg.born:Int))=(df:Int):=by rw [show (now:Int) - (bg.born:Int)=((df:Nat):Int) by omega];exact PJ
    by_cases LY:50<df
    ·have e2:decide ((50:Int)<(df:Int))=true:=aR;have hC:Ba now (i,pg bg)=false:=by rw [UG,hdf];simp [hp,LY]
     obtain ⟨w4,hrun,hT4,XS,nY⟩:=rL.gone HK.out sw.out wU.out yt.out Kn.out Mg.out (cC _) ox.out hC pX.out pP.out OS.out (od.out) Tryz.underlying77 0;rw [Hs.out] at XS;have hwn:IntKind.i64.wrap ((nd:Int)+1)=(nd:Int)+1:=IntWalk.i64_in _ ax;obtain ⟨oD,Iw,GR⟩:=ju XS nY hrun;clear XS nY hC hrun UG hdf;exact a9160
    ·have e2:decide ((50:Int)<(df:Int))=false:=aR;have hC:Ba now (i,pg bg)=true:=by rw [UG,hdf];simp [LY]
     have hk2:=rL.kept HK.out.1 sw.out wU.out yt.out Kn.out Mg.out (cC _) ox.out hC pX.out pP.out OS.out od.out;rw [Hs.out] at hk2;obtain ⟨oD,Iw⟩:=hi2 hk2.1 hk2.2;clear hk2 hC UG hdf;exact S4
   ·have e1:decide ((bg.born:Int)<(now:Int))=false:=aR;have hC:Ba now (i,pg bg)=true:=by rw [UG];simp [hp]
    have hk2:=rL.kept HK.out.1 sw.out wU.out yt.out Kn.out Mg.out (cC _) ox.out hC pX.out pP.out OS.out od.out;rw [Hs.out] at hk2;obtain ⟨oD,Iw⟩:=hi2 hk2.1 hk2.2;clear hk2 hC UG;exact S4
end
end Go.Proofs.N0
namespace Go.Proofs.N0
open Go.RowKit Go.Maps Go.ChangeMaps
variable {w:Nat}
section
variable {S:List Nat} {w0 W:World} {p b:Nat} {L:List (Nat×Obj)} {R:List aW} {t:af.Pt} {st bO nu:af.Store}
theorem _root_.af.Pt.Wf.turned (h:t.Wf) {q:af.dG} (hq:af.Int64 q.jo.dh∧af.Int64 q.jo.cD∧af.Int64 q.p0∧af.Int64 q.p1):({t with aj:=t.aj.set w q}:af.Pt).Wf:=by
 refine ⟨h.me,fun x hx=>?_,by simp only [List.length_set];exact h.many,h.offer,h.size,h.ak,h.messages,h.stamp,fun x hx=>?_,h.live,h.ids⟩
 ·rcases List.mem_or_eq_of_mem_set hx with hx|rfl
  ·exact h.aj x hx
  ·exact hq
 ·simp only [List.length_set];exact h.begun x hx
theorem UH {slot eX:Int} (h:NF S w0 W (ah p st::bK p b t::R) L) (hwl:w<t.aj.length) (hx:st.has eX=true) (hs:1<slot) :
 Calls Tryz.prog 21 #[vP b 0,vI w,vI slot,vI eX] W fun e w'=>e=.returned (vI 1)∧NF S w0 w' (ah p st::bK p b t::R) L:=by
 have hs1:decide (slot<0)=false:=aR
 have hs2:decide ((1:Int)<slot)=true:=by simpa using hs
 clear hs
 obtain ⟨a,ha,hw,h⟩:=cx h
 have hhas:t.has (w:Int)=true:=Kt
 have CH:=Hi (jK (who:=(w:Int)) (c:=true) (a:=a) (t:=t) (p:=p) (L:=(a.rp,cl a.kp 65)::(a.rq,cl a.kq 110)::L) h hhas)
 obtain ⟨tm,htm⟩:∃ tm,st.at eX=tm:=⟨_,rfl⟩
 have h1:=h
 unfold cN iz at h1
 simp only [bQ,bG] at h1
 have F0:=Hi h1
 obtain ⟨HA,HW,HX,HTM,rI⟩:=vT ha hw hx htm hwl
 clear h h1 ha hw hx htm hhas hwl
 have r:=rl F0.out.mem.rules
 go_enter Tryz.func21,Tryz.ntmps21
 go_wp2_with fail
 clear r
 refine CH.out.mono ?_
 rintro e w1 ⟨rfl,hb1⟩
 have F1:=Hi (F0.out.later hb1)
 clear hb1 CH F0
 have CG:=Hi (F1.out.gL fun S1 hs=>hs.kB (x:=eX) (t:=tm) (b:=true) HTM.out HX.out)
 have r:=rl F1.out.mem.rules
 go_wp2_with fail
 clear r
 refine CG.out.mono ?_
 rintro e w2 ⟨rfl,g⟩
 have F2:=Hi (g.alloc (cl (fH tm) 95))
 clear g CG F1
 have r:=rl F2.out.mem.rules
 go_wp2_with fail
 go_ret
 exact ⟨rfl,fP HA.out HW.out (F2.out.sub (zq _ _))⟩
end
end Go.Proofs.N0
namespace Go.Proofs.N0
open Go.RowKit Go.Maps Go.ChangeMaps
def pK (who:Int) (x:Nat×Value):Bool:=decide (EN x.2=who)
theorem Ia (who:Int) (l:List (Nat×af.pW)):((bU l).filter (pK who)).length=(l.filter fun (x:Nat×af.pW)=>decide (x.2.peer=who)).length:=by unfold bU;rw [List.filter_map,Fw];rfl
theorem KF {l:List (Nat×Value)} {i:Nat} {s:Value} {left:Lit→Bool} {q:Nat×Value→Bool} (hn:(l.map (·.1)).Nodup) (hx:(i,s)∈l) (hl:left (aV i)=true) :
 (l.filter fun x=>q x&&!(left (aV x.1)&&!(aV x.1).sameKey (aV i))).length=(l.filter fun x=>q x&&!left (aV x.1)).length+(if q (i,s) then 1 else 0):=by
 induction l with
 | nil=>simp at hx
 | cons y l ih =>
  simp only [jQ,uM] at hn;by_cases e:y.1=i
  ·have hy:y=(i,s):=by
    rcases List.mem_cons.1 hx with h|h
    ·exact h.symm
    ·exact absurd (by rw [e];exact mG h) hn.1
   have h2:(l.filter fun x=>q x&&!(left (aV x.1)&&!(aV x.1).sameKey (aV i)))=l.filter fun x=>q x&&!left (aV x.1):=yX fun z hz=>by
    have h3:z.1≠i:=fun h=>hn.1 c995;have h4:(z.1==i)=false:=by simpa using h3
    rw [jm,h4];simp
   have e':(y.1==i)=true:=Ip;subst hy;simp only [oO,jm,beq_self_eq_true,hl,Bool.not_true,aN,nS,Bool.and_true,dY,if_false];simp only [jm] at h2;cases q (i,s)
   ·simp only [dY,if_false,h2];omega
   ·simp only [if_true,yQ,h2]
  ·have hx2:(i,s)∈l:=by exact SU
   have h2:=ih hn.2 hx2;have e':(y.1==i)=false:=Ip;simp only [jm] at h2 ⊢;simp only [oO,e',nS,Bool.and_true];cases q y&&!left (aV y.1)
   ·simpa using h2
   ·simp only [if_true,yQ,h2];omega
def pL (w:World) (mb r:Nat) (l:List (Nat×Value)) (q:Nat×Value→Bool) (nv:Value) (wr:World):Prop :=
 ∃ left cnt D,wr.ranges Tryz.prog 31 cK mb r l.length D left cnt∧bq aV kW D l∧(∀ kl,left kl=true→∃ i,kl=aV i)∧az [mb] w wr∧nv=vI ((l.filter fun x=>q x&&!left (aV x.1)).length:Nat)
section
variable {w wr w' w2 w3:World} {mb r cnt cnt2 i:Nat} {l m:List (Nat×Value)} {q:Nat×Value→Bool} {left:Lit→Bool} {D:DataW Value} {s:Value}
theorem pL.start (h1:bq aV kW D l) (hr:w'.ranges Tryz.prog 31 cK mb r l.length D (fun kl=>Maps.has D kl) cnt) (hg:w.grownBy w' none):pL w mb r l q (vI 0) w':=by
 refine ⟨_,cnt,D,hr,h1,h1.only,az.grown hg aH,?_⟩;have:(l.filter fun x=>q x&&!Maps.has D (aV x.1))=[]:=by refine List.filter_eq_nil_iff.2 fun x hx=>?_;exact ZH
 rw [this];rfl
theorem pL.next (hn:(l.map (·.1)).Nodup) (hr:wr.ranges Tryz.prog 31 cK mb r l.length D left cnt) (hM:bq aV kW D l) (hk:∀ kl,left kl=true→∃ i,kl=aV i) (ht:az [mb] w wr) (hrw:w.heap.size≤r)
 (hx:(i,s)∈l) (hl:left (aV i)=true) (hr2:w2.ranges Tryz.prog 31 cK mb r l.length D (fun z=>left z&&!z.sameKey (aV i)) cnt2) (hc:cnt2<cnt) (hg:wr.grownBy w2 (some r)) (hb:Below w2.heap.size w2 w3) :
 pL w mb r l q (vI ((l.filter fun x=>q x&&!left (aV x.1)).length+(if q (i,s) then 1 else 0):Nat)) w3∧w3.rangeLeft mb r<wr.rangeLeft mb r:=by
 have hr3:=hr2.same (hb.block mb hr2.owns.lt) (hb.block r hr2.lt)
 refine ⟨⟨_,cnt2,D,hr3,hM,fun kl h=>hk kl GK,?_,by rw [KF hn hx hl]⟩,c975⟩
 exact (ht.trans (az.grown (S:=[r]) hg (fun j e=>.inl nX)) (fun j e=>.inr Ap)).trans (az.below (S:=[]) hb) (fun j e=>absurd e aH)
theorem KG (hn:(l.map (·.1)).Nodup∧∀ x∈l,x.1<18446744073709551616) (hr:wr.ranges Tryz.prog 31 cK mb r l.length D left cnt) (hM:bq aV kW D l):cQ wr mb l:=by have h1:=hr.owns.tight;rw [hM.size] at h1;exact ⟨hn,D,h1,hM⟩
end
section
variable {S:List Nat} {w0 W:World} {p b:Nat} {L:List (Nat×Obj)} {R:List aW} {t:af.Pt} {st bO nu:af.Store} {a:rT}
theorem Yy {w n:Nat} {pl:af.aP} (h:NF S w0 W (ah p st::bK p b t::R) L) (hwl:w<t.aj.length) (hbl:t.begun.length<1000000) (hn:(t.begun.filter fun (x:Nat×af.pW)=>decide (x.2.peer=(w:Int))).length=n) (hpl:t.aO[w]?=some pl) :
 Calls Tryz.prog 20 #[vP b 0,vI w] W fun e w'=>e=.returned (.tuple #[vI n,vI pl.l.length,vI pl.held])∧NF S w0 w' (ah p st::bK p b t::R) L:=by
 obtain ⟨a,ha,hw,h⟩:=cx h
 have hhas:t.has (w:Int)=true:=Kt
 have CH:=Hi (jK (who:=(w:Int)) (c:=true) (a:=a) (t:=t) (p:=p) (L:=(a.rp,cl a.kp 65)::(a.rq,cl a.kq 110)::L) h hhas)
 have HF:=Hi h
 have h1:=h
 unfold cN iz at h1
 simp only [bQ,bG] at h1
 have F0:=Hi h1
 obtain ⟨HA,HW,rI,HBLN,HN,Fb⟩:=Vn ha hw hwl hbl hn hpl
 clear h h1 ha hw hhas hwl hbl hn hpl
 have r:=rl F0.out.mem.rules
 go_enter Tryz.func20,Tryz.ntmps20
 go_wp2_with fail
 clear r
 refine CH.out.mono ?_
 rintro e w1 ⟨rfl,hb1⟩
 have HF1:=Hi (HF.out.later hb1)
 have F1:=Hi (F0.out.later hb1)
 clear hb1 CH F0 HF
 have hma:=HF1.out.kY (mb:=a.mb) (l:=bU t.begun) AO
 have hbb:=F1.out.lD (x:=(b,cl (jt p a t) 80)) aH
 have HMA:=Hi hma
 have Ln:=Hi hbb
 obtain ⟨hkeys,D0,rF,hm0⟩:=hma
 obtain ⟨HK,NR,N3⟩:=ju hkeys hm0 rF
 clear hkeys hm0 rF hbb
 have r:=rl F1.out.mem.rules
 go_wp2_with (at_range;refine wpList_range_own _ rfl _ 77 rfl 31 90 mX Tryz.underlying77 _ a.mb (bU t.begun).length D0 rfl N3.out ?_;intro w2 hrg0 hg0 hs0)
 have TQ:=Hi (pL.start (w:=w1) (q:=pK (w:Int)) NR.out hrg0 hg0)
 clear r hrg0 hg0 hs0
 try go_frame
 go_loopw [7] (fun nv wr=>pL w1 a.mb w1.heap.size (bU t.begun) (pK (w:Int)) nv wr) (fun _ wr=>wr.rangeLeft a.mb w1.heap.size)
 case atStart=>exact TQ.out
 case round =>
  obtain ⟨left,cnt,D,hrg,hM,hk,htu,rfl⟩:=hrel;obtain ⟨nd,qb⟩:∃ nd,((bU t.begun).filter fun x=>pK (w:Int) x&&!left (aV x.1)).length=nd:=⟨_,rfl⟩
  have hndl:nd<1000000:=by
   have:=HBLN.out
   have h2:=lG (fun x=>pK (w:Int) x&&!left (aV x.1)) (bU t.begun)
   rw [qb] at h2;unfold bU at h2;rw [Fw] at h2;omega
  have Hs:=Hi qb;obtain ⟨wU,yt,Kn,Mg⟩:=hi4 hrg hM hk htu;rw [qb];clear hrg hM hk htu TQ qb;go_wp2_with (at_next;refine rW _ rfl _ rfl a.mb w1.heap.size (bU t.begun).length D left cnt _ rfl wU.out yt.out Kn.out ?_ ?_)
  ·intro hl0;have hnn:nd=n:=by rw [←Hs.out,←HN.out,←Ia];refine congrArg List.length (yX fun x _=>?_);rw [hl0];simp
   subst hnn;have js:=KG HK.out wU.out yt.out;have g:=HF1.out;unfold cS at g;have F2:Hid (NF S w0 wr (ah p st::(cS a p t++R)) (cN a p b t++L)):=Hi (((g.bP (tE (l₁:=[_,_]))).lR js Mg.out).bP (tE (l₁:=[_,_])).symm);obtain ⟨k,q,pl1,sl,hk,hpl1,jN,hok,g2,-⟩:=kZ (w:=w) HA.out rI.out F2.out;obtain rfl:pl=pl1:=by have:=Fb.out;rw [hpl1] at this;exact (Option.some.inj this).symm
   obtain ⟨fq,hfq⟩:=g2.pG (r:=dB q pl) (dN ..);have CP:=Hi (Tj wr hfq);unfold dD cN iz at g2;simp only [bQ,bG] at g2;have F3:=Hi g2;have yp:=(F3.out.mem).rV (g:=a.rq) (T:=110) aH HA.out.kq hk ⟨_,Below.refl _ _⟩;simp only at yp;have hw1:(w:Int)<(t.aj.length:Int):=by have:=rI.out;omega
   have hw2:(0:Int)≤(w:Int):=ax;clear hl0 js g hk hpl1 jN hok g2 hfq;have r:=rl F3.out.mem.rules;go_wp2_with fail;clear r;refine CP.out.mono ?_;rintro e w5 ⟨rfl,hb5⟩;have nB:=Hi (fP HA.out HW.out (F2.out.later hb5));clear hb5 CP F2 F3 yp;go_wp2_with fail;go_ret3;exact ⟨rfl,nB.out⟩
  ·intro i s w2 cnt2 hin BU hrg2 hlt hg2 hs2 hen;obtain ⟨bg,rfl⟩:∃ bg:af.pW,pg bg=s:=by obtain ⟨y,hy,e⟩:=List.mem_map.1 hin;cases e;exact ⟨y.2,rfl⟩
   have IB:az [a.mb] w1 w2:=Mg.out.trans (az.grown (S:=[w1.heap.size]) hg2 (fun j e=>.inl nX)) (fun j e=>.inr Ap);have hb2:=fU Ln.out HMA.out IB;obtain ⟨ox,pX,pP,OS,HLI⟩:=vT hin hrg2 hlt hg2 BU;have RS:pg bg=.agg #[vI bg.peer,vI bg.q.y.ck,vI bg.q.y.k,vI bg.q.y.h,vU bg.q.y.n,vI bg.q.e,vI bg.q.ek,vS bg.q.offer,vU bg.born]:=rfl;rw [RS] at hen ⊢;have M1:=Hi (((Mem.start w2).with hb2).alloc (cl #[vI bg.peer,vI bg.q.y.ck,vI bg.q.y.k,vI bg.q.y.h,vU bg.q.y.n,vI bg.q.e,vI bg.q.ek,vS bg.q.offer,vU bg.born] 90));have od:=Hi ((Below.refl w2.heap.size w2).alloc (cC _) (cl #[vI bg.peer,vI bg.q.y.ck,vI bg.q.y.k,vI bg.q.y.h,vU bg.q.y.n,vI bg.q.e,vI bg.q.ek,vS bg.q.offer,vU bg.born] 90));clear IB hb2 hin BU hrg2 hlt hg2 hs2 RS;have hc2:=pL.next (q:=pK (w:Int)) HK.out.1 wU.out yt.out Kn.out Mg.out (cC _) ox.out HLI.out pX.out pP.out OS.out od.out;rw [Hs.out] at hc2;have UG:pK (w:Int) (i,pg bg)=decide (bg.peer=(w:Int)):=rfl;have r:=rl M1.out.rules;by_cases hp:bg.peer=(w:Int)
   ·have e1:(bg.peer==(w:Int))=true:=by simp [hp]
    rw [UG,decide_eq_true hp] at hc2;have HR:Hid (pL w1 a.mb w1.heap.size (bU t.begun) (pK (w:Int)) (vI ((nd:Int)+1)) _):=Hi hc2.1;have Iw:=Hi hc2.2;have hwn:IntKind.i64.wrap ((nd:Int)+1)=(nd:Int)+1:=IntWalk.i64_in _ ax;clear hc2 UG hp;exact SY
   ·have e1:(bg.peer==(w:Int))=false:=by simp [hp]
    rw [UG,decide_eq_false hp] at hc2;have HR:Hid (pL w1 a.mb w1.heap.size (bU t.begun) (pK (w:Int)) (vI (nd:Nat)) _):=Hi hc2.1;have Iw:=Hi hc2.2;clear hc2 UG hp;exact SY
end
end Go.Proofs.N0
namespace Go.Proofs.N0
open Go.RowKit Go.Maps Go.ChangeMaps
variable {l:af.aS} {k:Nat} {o:af.One} {os:List af.One}
def sB (o:af.One):List Value:=[vU o.id,vU o.to,vU o.born]
theorem ET:(Tryz.prog.info? 98).map (fun i=>(i.zero,i.size,i.bytes))=some (some (.agg #[vU 0,vU 0,vU 0]),3,24):=aI
def KH (W:World) (l:af.aS) (ov iv:Value) (wr:World):Prop:=∃ k,k≤3∧iv=vI (k:Nat)∧wr.ownsRow W.heap.size 98 3 ov ((l.order.take k).filter af.One.there).length (((l.order.take k).filter af.One.there).flatMap sB)∧Below W.heap.size W wr
theorem KI (ho:l.order[k]?=some o) (h0:o.there=false):(l.order.take (k+1)).filter af.One.there=(l.order.take k).filter af.One.there:=by rw [List.take_add_one,ho,List.filter_append];simp [h0]
theorem EU (ho:l.order[k]?=some o) (h0:o.there=true):(l.order.take (k+1)).filter af.One.there=(l.order.take k).filter af.One.there++[o]:=by rw [List.take_add_one,ho,List.filter_append];simp [h0]
theorem UK {w:World} {base:Nat} {v:Value} (hq:l.all=os) (h:w.ownsRow base 98 3 v ((l.order.take 3).filter af.One.there).length (((l.order.take 3).filter af.One.there).flatMap sB)):w.ownsRow base 98 3 v os.length (os.flatMap sB):=by rw [show (l.order.take 3).filter af.One.there=os by rw [←hq];rfl] at h;exact h
theorem xo (w:World) (o:af.One):∀ k u,[Value.int .u64 o.id,vU o.to,vU o.born][k]?=some u→(w.alloc (cl #[vU o.id,vU o.to,vU o.born] 98)).cell? ((⟨w.heap.size,0,none⟩:Addr).add k)=some u:=by
 intro k u hk
 match k,hk with
 | 0,hk=>simp at hk;subst hk;simp [Addr.add]
 | 1,hk=>simp at hk;subst hk;simp [Addr.add]
 | 2,hk=>simp at hk;subst hk;simp [Addr.add]
theorem Pd (hq:l.all=os) (W:World):Calls Tryz.prog 34 #[oK l] W fun e w'=>∃ v,e=.returned v∧w'.ownsRow W.heap.size 98 3 v os.length (os.flatMap sB)∧Below W.heap.size W w':=by
 have hq:=Hi hq
 unfold oK
 have O:=fun W=>Hi (xN (l:=l) W)
 unfold oK Xl at O
 have F0:=Hi ((NF.gR W).alloc (cl (E7 l) 107))
 have r:=rl F0.out.mem.rules
 go_enter Tryz.func34,Tryz.ntmps34
 go_wp2_with fail
 refine (O _).out.mono ?_
 rintro e w1 ⟨rfl,hb1⟩
 have F1:=Hi ((F0.out.later hb1).sub (sj _))
 clear r hb1 F0 O
 have HB0:=Hi F1.out.dZ
 clear F1
 go_wp2_with fail
 go_loopw [3,8] (fun ov iv wr=>KH W l ov iv wr) (fun _ iv _=>3 - (intOf iv).toNat)
 case atStart=>exact ⟨0,ax,rfl,World.ownsRow_nil _ _ _ _,HB0.out⟩
 case round =>
  clear HB0;obtain ⟨k,hk,rfl,hrow,hb⟩:=hrel;obtain ⟨HB,yu⟩:=hi2 hb hrow;have hc:k=0∨k=1∨k=2∨k=3:=ax;clear hk hrow hb;rcases hc with rfl|rfl|rfl|rfl
  ·skip
   have gy:l.order[0]?=some l.cur:=rfl
   generalize ho:l.cur=o at gy
   have i0:=TJ l.cur.id l.cur.to l.cur.born l.next.id l.next.to l.next.born l.prev.id l.prev.to l.prev.born
   rw [ho] at i0
   have M1:=Hi ((Mem.start wr).alloc (cl #[vU o.id,vU o.to,vU o.born] 98))
   have od:=Hi ((Below.refl wr.heap.size wr).alloc (cC _) (cl #[vU o.id,vU o.to,vU o.born] 98))
   obtain ⟨c,hc⟩:∃ c,o.there=c:=⟨_,rfl⟩
   have T:=fun W=>Hi (aT (o:=o) (b:=c) hc W)
   unfold eV at T
   have HC:=Hi hc
   clear ho hc
   have r:=rl M1.out.rules
   go_wp2_with fail
   refine (T _).out.mono ?_
   rintro e w2 ⟨rfl,hb2⟩
   have hb3:Below wr.heap.size wr w2:=od.out.trans (hb2.mono od.out.size)
   have hrow2:=rU yu.out hb3
   have Bx:=Hi (HB.out.trans (hb3.mono HB.out.size))
   have M2:=Hi (M1.out.later hb2)
   have hbw:=Bx.out.size
   clear T hb2 r M1 od hb3
   have r:=rl M2.out.rules
   cases c
   ·have HR:Hid (KH W l _ (vI (1:Nat)) w2):=Hi ⟨1,ax,rfl,by rw [KI (k:=0) gy HC.out];exact hrow2,Bx.out⟩;clear gy hrow2;exact tO
   ·obtain ⟨i1,mE,hz0,hz1,hz2⟩:=info_parts ET
    have PX:=Hi (EU (k:=0) gy HC.out)
    have hlen:((l.order.take 0).filter af.One.there).length≤3:=Fc (lG _ _) c996
    obtain ⟨nn,hnn⟩:∃ nn,((l.order.take 0).filter af.One.there).length=nn:=⟨_,rfl⟩
    obtain ⟨xs,hxs⟩:∃ xs,((l.order.take 0).filter af.One.there).flatMap sB=xs:=⟨_,rfl⟩
    rw [hnn] at hlen
    rw [hnn,hxs] at hrow2
    obtain ⟨HNN,HXS⟩:=hi2 hnn hxs
    clear gy hnn hxs
    go_wp2_with (at_builtin;refine wpList_append_own _ rfl _ _ 104 rfl W.heap.size 98 i1 (.agg #[vU 0,vU 0,vU 0]) 3 24 Tryz.underlying104 mE hz0 hz1 hz2 rfl aG _ _ _ rfl (hrow2.alloc _) ⟨w2.heap.size,0,none⟩ 1 1 [vU o.id,vU o.to,vU o.born] rfl rfl ?c1 ?c2 ?c3 ?c4 ?c5 ?_)
    case c1=>exact xo w2 o
    case c2=>intro u hu;simp at hu;rcases hu with rfl|rfl|rfl<;>rfl
    case c3=>unfold maxLen;omega
    case c4=>omega
    case c5=>simp;omega
    intro v' w3 hown' hgrow' _
    have hv:=fun k hk=>(hrow2.lt k hk).1
    have HR:Hid (KH W l v' (vI (1:Nat)) w3):=Hi ⟨1,ax,rfl,c997,(Bx.out.alloc hbw _).grown hgrow' aR hv⟩
    exact aar
  ·skip
   have gy:l.order[1]?=some l.next:=rfl
   generalize ho:l.next=o at gy
   have i0:=TK l.cur.id l.cur.to l.cur.born l.next.id l.next.to l.next.born l.prev.id l.prev.to l.prev.born
   rw [ho] at i0
   have M1:=Hi ((Mem.start wr).alloc (cl #[vU o.id,vU o.to,vU o.born] 98))
   have od:=Hi ((Below.refl wr.heap.size wr).alloc (cC _) (cl #[vU o.id,vU o.to,vU o.born] 98))
   obtain ⟨c,hc⟩:∃ c,o.there=c:=⟨_,rfl⟩
   have T:=fun W=>Hi (aT (o:=o) (b:=c) hc W)
   unfold eV at T
   have HC:=Hi hc
   clear ho hc
   have r:=rl M1.out.rules
   go_wp2_with fail
   refine (T _).out.mono ?_
   rintro e w2 ⟨rfl,hb2⟩
   have hb3:Below wr.heap.size wr w2:=od.out.trans (hb2.mono od.out.size)
   have hrow2:=rU yu.out hb3
   have Bx:=Hi (HB.out.trans (hb3.mono HB.out.size))
   have M2:=Hi (M1.out.later hb2)
   have hbw:=Bx.out.size
   clear T hb2 r M1 od hb3
   have r:=rl M2.out.rules
   cases c
   ·have HR:Hid (KH W l _ (vI (2:Nat)) w2):=Hi ⟨2,ax,rfl,by rw [KI (k:=1) gy HC.out];exact hrow2,Bx.out⟩;clear gy hrow2;exact tO
   ·obtain ⟨i1,mE,hz0,hz1,hz2⟩:=info_parts ET
    have PX:=Hi (EU (k:=1) gy HC.out)
    have hlen:((l.order.take 1).filter af.One.there).length≤3:=Fc (lG _ _) c996
    obtain ⟨nn,hnn⟩:∃ nn,((l.order.take 1).filter af.One.there).length=nn:=⟨_,rfl⟩
    obtain ⟨xs,hxs⟩:∃ xs,((l.order.take 1).filter af.One.there).flatMap sB=xs:=⟨_,rfl⟩
    rw [hnn] at hlen
    rw [hnn,hxs] at hrow2
    obtain ⟨HNN,HXS⟩:=hi2 hnn hxs
    clear gy hnn hxs
    go_wp2_with (at_builtin;refine wpList_append_own _ rfl _ _ 104 rfl W.heap.size 98 i1 (.agg #[vU 0,vU 0,vU 0]) 3 24 Tryz.underlying104 mE hz0 hz1 hz2 rfl aG _ _ _ rfl (hrow2.alloc _) ⟨w2.heap.size,0,none⟩ 1 1 [vU o.id,vU o.to,vU o.born] rfl rfl ?c1 ?c2 ?c3 ?c4 ?c5 ?_)
    case c1=>exact xo w2 o
    case c2=>intro u hu;simp at hu;rcases hu with rfl|rfl|rfl<;>rfl
    case c3=>unfold maxLen;omega
    case c4=>omega
    case c5=>simp;omega
    intro v' w3 hown' hgrow' _
    have hv:=fun k hk=>(hrow2.lt k hk).1
    have HR:Hid (KH W l v' (vI (2:Nat)) w3):=Hi ⟨2,ax,rfl,c997,(Bx.out.alloc hbw _).grown hgrow' aR hv⟩
    exact aar
  ·skip
   have gy:l.order[2]?=some l.prev:=rfl
   generalize ho:l.prev=o at gy
   have i0:=TL l.cur.id l.cur.to l.cur.born l.next.id l.next.to l.next.born l.prev.id l.prev.to l.prev.born
   rw [ho] at i0
   have M1:=Hi ((Mem.start wr).alloc (cl #[vU o.id,vU o.to,vU o.born] 98))
   have od:=Hi ((Below.refl wr.heap.size wr).alloc (cC _) (cl #[vU o.id,vU o.to,vU o.born] 98))
   obtain ⟨c,hc⟩:∃ c,o.there=c:=⟨_,rfl⟩
   have T:=fun W=>Hi (aT (o:=o) (b:=c) hc W)
   unfold eV at T
   have HC:=Hi hc
   clear ho hc
   have r:=rl M1.out.rules
   go_wp2_with fail
   refine (T _).out.mono ?_
   rintro e w2 ⟨rfl,hb2⟩
   have hb3:Below wr.heap.size wr w2:=od.out.trans (hb2.mono od.out.size)
   have hrow2:=rU yu.out hb3
   have Bx:=Hi (HB.out.trans (hb3.mono HB.out.size))
   have M2:=Hi (M1.out.later hb2)
   have hbw:=Bx.out.size
   clear T hb2 r M1 od hb3
   have r:=rl M2.out.rules
   cases c
   ·have HR:Hid (KH W l _ (vI (3:Nat)) w2):=Hi ⟨3,ax,rfl,by rw [KI (k:=2) gy HC.out];exact hrow2,Bx.out⟩;clear gy hrow2;exact tO
   ·obtain ⟨i1,mE,hz0,hz1,hz2⟩:=info_parts ET
    have PX:=Hi (EU (k:=2) gy HC.out)
    have hlen:((l.order.take 2).filter af.One.there).length≤3:=Fc (lG _ _) c996
    obtain ⟨nn,hnn⟩:∃ nn,((l.order.take 2).filter af.One.there).length=nn:=⟨_,rfl⟩
    obtain ⟨xs,hxs⟩:∃ xs,((l.order.take 2).filter af.One.there).flatMap sB=xs:=⟨_,rfl⟩
    rw [hnn] at hlen
    rw [hnn,hxs] at hrow2
    obtain ⟨HNN,HXS⟩:=hi2 hnn hxs
    clear gy hnn hxs
    go_wp2_with (at_builtin;refine wpList_append_own _ rfl _ _ 104 rfl W.heap.size 98 i1 (.agg #[vU 0,vU 0,vU 0]) 3 24 Tryz.underlying104 mE hz0 hz1 hz2 rfl aG _ _ _ rfl (hrow2.alloc _) ⟨w2.heap.size,0,none⟩ 1 1 [vU o.id,vU o.to,vU o.born] rfl rfl ?c1 ?c2 ?c3 ?c4 ?c5 ?_)
    case c1=>exact xo w2 o
    case c2=>intro u hu;simp at hu;rcases hu with rfl|rfl|rfl<;>rfl
    case c3=>unfold maxLen;omega
    case c4=>omega
    case c5=>simp;omega
    intro v' w3 hown' hgrow' _
    have hv:=fun k hk=>(hrow2.lt k hk).1
    have HR:Hid (KH W l v' (vI (3:Nat)) w3):=Hi ⟨3,ax,rfl,c997,(Bx.out.alloc hbw _).grown hgrow' aR hv⟩
    exact aar
  ·have nB:=Hi (And.intro (UK hq.out yu.out) HB.out);clear yu HB;go_wp2_with fail;go_ret;exact ⟨_,rfl,nB.out⟩
end Go.Proofs.N0
namespace Go
open Go.RowKit Go.Proofs.N0
variable {a:Act} {w:World} {n id:Nat}
theorem Yz {P:Program} {ops:Array Oper} {Q:Exit→Act→World→Prop} (I:(Nat→Bool)→Act→World→Prop) 
 (vY:∀ (i:Nat) (o:Oper),ops[i]?=some o→∀ e∈o.after,Region.binds .any e=true→e.on<i)
 (h0:∀ L,(∀ i,i<ops.size→L i=false)→I L a w)
 (hstep:∀ (i:Nat) (o:Oper) (L:Nat→Bool) (a:Act) (w:World),ops[i]?=some o→L i=false→(o.after.all fun e=>!Region.binds .any e||L e.on)=true→I L a w→wpOp P ops Q i (I (fun j=>L j||j==i)) a w)
 (hend:∀ (L:Nat→Bool) (a:Act) (w:World),(∀ i,i<ops.size→L i=true)→I L a w→Q .normal a w):wpAny P .any ops Q ops.size (Array.replicate ops.size false) a w:=by
 have main:∀ (fuel:Nat) (listed:Array Bool) (a:Act) (w:World),listed.size=ops.size→(dn ops listed).length≤fuel→I (fun j=>listed.getD j false) a w→wpAny P .any ops Q fuel listed a w:=by exact a97
 refine main ops.size _ a _ aH ?_ (h0 _ fun i hi=>by simp [Array.getD,hi])
 unfold dn
 exact Fc (lG _ _) aH
section
variable {P:Program} {l:List Oper} {w0:World} {Q:Exit→Act→World→Prop} {a0:Act}
theorem UL (F:Nat→Option Value) (M:(Nat→Bool)→(Nat→Value)→World→Prop) (hB:kz l n=true)
 (h0:∀ L v,(∀ i,i<l.length→L i=false)→M L v w0)
 (hM:∀ L L' v v' x,(∀ k,k<l.length→F k=none→L k=L' k∧(L k=true→v k=v' k))→M L v x→M L' v' x)
 (dQ:tF P l Q a0 F M 0 l)
 (hend:∀ L v x,(∀ i,i<l.length→L i=true)→(∀ k u,k<l.length→F k=some u→v k=u)→M L v x→Q .normal (aq a0 0 l v) x):wpAny P .any l.toArray Q l.toArray.size (Array.replicate l.toArray.size false) a0 w0:=by
 unfold kz at hB
 rw [gi,gi,decide_eq_true_eq,Bq] at hB
 obtain ⟨⟨qb,_⟩,hB2⟩:=hB
 have Qr:∀ (i:Nat) (o:Oper),l[i]?=some o→∀ j∈waits o,j<i:=fun i o ho=>by exact a980
 refine Yz (fun L a x=>(∀ (i j:Nat) (o':Oper),l[i]?=some o'→j∈waits o'→L i=true→L j=true)∧∃ v,a=aq a0 0 l v∧(∀ k u,k<l.length→F k=some u→L k=true→v k=u)∧M L v x) (fun i o ho e he hb=>?_) (fun L hL=>?_) (fun i o L a x ho hLi haft hI=>?_) (fun L a x hL hI=>?_)
 ·exact Z8
 ·exact a943
 ·exact a98
 ·exact Lv
theorem Pe (Wr Al:List Nat) (F:Nat→Option Value) (I:Nat→SPred) (hB:kz l n=true) (hC:chainB l Wr=true)
 (h0:∀ L v,(∀ k∈Al,k<l.length→L k=false)→I 0 L v w0) (hI:∀ i L v x y,I i L v x→Below x.heap.size x y→I i L v y) (YP:∀ i L L' v v' x,(∀ k∈Al,k<l.length→L k=L' k∧(L k=true→v k=v' k))→(∀ j k,j<i→Wr[j]?=some k→v k=v' k)→I i L v x→I i L' v' x)
 (dQ:jw P l Q a0 Wr Al F I 0 l)
 (hend:∀ L v x,(∀ k u,k<l.length→F k=some u→v k=u)→(∀ k,k<l.length→L k=true)→I Wr.length L v x→Q .normal (aq a0 0 l v) x):wpAny P .any l.toArray Q l.toArray.size (Array.replicate l.toArray.size false) a0 w0:=by
 unfold chainB at hC
 rw [gi,gi,decide_eq_true_eq] at hC
 obtain ⟨⟨qb,hlen⟩,hch⟩:=hC
 have hlt:∀ i k,Wr[i]?=some k→k<l.length:=fun i k h=>by exact RB
 have hnext:∀ i a b,Wr[i]?=some a→Wr[i+1]?=some b→∃ o,l[b]?=some o∧a∈waits o:=fun i a b ha hb=>by exact a948
 have hinj:∀ i j k,Wr[i]?=some k→Wr[j]?=some k→i=j:=fun i j k hi hj=>by exact a988
 refine UL (n:=n) (fun k=>if k∈Wr then none else F k) (fun L v x=>∃ i,(∀ j k,Wr[j]?=some k→(L k=true↔j<i))∧(∀ j k u,Wr[j]?=some k→j<i→F k=some u→v k=u)∧i≤Wr.length∧(∀ k∈Al,k<l.length→k∉Wr∧F k=none)∧I i L v x) hB ?_ ?_ ?_ ?_
 ·exact a973
 ·exact Fm
 ·exact a92
 ·exact S3
theorem KJ (Wr Al:List Nat) (F:Nat→Option Value) (Lc:List (Nat×Obj)) (Ps:List SPred) (hB:kz l n=true) (hC:chainB l Wr=true)
 (hmem:∀ p∈Ps,∀ L v x,p L v x→Mem x Lc x) (hI:∀ p∈Ps,∀ L v x y,p L v x→Below x.heap.size x y→p L v y)
 (YP:∀ (i:Nat) (p:SPred),Ps[i]?=some p→∀ (L L':Nat→Bool) (v v':Nat→Value) (x:World),(∀ k∈Al,k<l.length→L k=L' k∧(L k=true→v k=v' k))→(∀ j k,j<i→Wr[j]?=some k→v k=v' k)→p L v x→p L' v' x) {p0 pz:SPred} (DG:Ps[0]?=some p0) (h0:∀ L v,(∀ k∈Al,k<l.length→L k=false)→p0 L v w0) (YT:Ps[Wr.length]?=some pz)
 (dQ:oP P l Q a0 Wr Al F Ps Lc 0 l)
 (hend:∀ L v x,(∀ k u,k<l.length→F k=some u→v k=u)→(∀ k,k<l.length→L k=true)→pz L v x→Q .normal (aq a0 0 l v) x):wpAny P .any l.toArray Q l.toArray.size (Array.replicate l.toArray.size false) a0 w0:=by
 refine Pe (n:=n) Wr Al F (stg Ps) hB hC (fun L v hL=>⟨p0,DG,h0 L v hL⟩) ?_ ?_ ?_ ?_
 ·exact ZI
 ·exact YQ
 ·suffices h:∀ (r:List Oper) (k:Nat),oP P l Q a0 Wr Al F Ps Lc k r→jw P l Q a0 Wr Al F (stg Ps) k r from h l 0 dQ
  exact a914
 ·exact UN
def UM (P:Program) (l:List Oper) (o:Oper) (Q:Exit→Act→World→Prop):Exit→Act→World→Prop:=fun e a' w'=>match e with
 | .normal=>wpOp P (l++[o]).toArray Q l.length (Q .normal) a' w'
 | e=>Q e a' w'
theorem Bf {o:Oper} (Wr Al:List Nat) (F:Nat→Option Value) (Lc:List (Nat×Obj)) (Ps:List SPred) (hm:P.follows .mixedOrders=true) (hB:kz l n=true) (hC:chainB l Wr=true) (ht:vo l o=true) (hg:o.guard=none)
 (hmem:∀ p∈Ps,∀ L v x,p L v x→Mem x Lc x) (hI:∀ p∈Ps,∀ L v x y,p L v x→Below x.heap.size x y→p L v y)
 (YP:∀ (i:Nat) (p:SPred),Ps[i]?=some p→∀ (L L':Nat→Bool) (v v':Nat→Value) (x:World),(∀ k∈Al,k<l.length→L k=L' k∧(L k=true→v k=v' k))→(∀ j k,j<i→Wr[j]?=some k→v k=v' k)→p L v x→p L' v' x) {p0 pz:SPred} (DG:Ps[0]?=some p0) (h0:∀ L v,(∀ k∈Al,k<l.length→L k=false)→p0 L v w0.drew) (YT:Ps[Wr.length]?=some pz)
 (dQ:oP P l (UM P l o Q) a0 Wr Al F Ps Lc 0 l)
 (hend:∀ L v x,(∀ k u,k<l.length→F k=some u→v k=u)→(∀ k,k<l.length→L k=true)→pz L v x→o.wp P (aq a0 0 l v) x (Q .normal) Q):(Code.region id (l++[o]).toArray true).wp P Q a0 w0:=by
 refine wp_region_any hm ?_
 have h1:=KJ (n:=n) (w0:=w0.drew) (Q:=UM P l o Q) Wr Al F Lc Ps hB hC hmem hI YP DG h0 YT dQ (fun L v x h1 h2 h3=>by
  show wpOp P (l++[o]).toArray Q l.length (Q .normal) _ _;unfold wpOp;have:(l++[o]).toArray[l.length]?=some o:=aH;rw [this];simp only [Region.wanted,hg,if_true];exact .inl (hend L v x h1 h2 h3))
 have h2:wpAny P .any l.toArray (UM P l o Q) l.length (Array.replicate l.toArray.size false) a0 w0.drew:=ML
 have h3:=zX ht l.length (Array.replicate l.toArray.size false) a0 _ aH (fun i x hx hi hL=>by simp [yl,hi] at hL) h2
 have e1:(l++[o]).toArray.size=l.length+1:=aH
 have e2:(Array.replicate l.toArray.size false).push false=Array.replicate (l++[o]).toArray.size false:=by rw [e1];simp [←Array.replicate_succ]
 rw [e2] at h3
 rw [e1] at h3 ⊢
 exact h3
theorem yA (n:Nat) {ops:Array Oper} (hs:n<ops.toList.length) (h:(Code.region id (ops.toList.take n++[ops.toList[n]'hs]).toArray true).wp P Q a w) (hs2:ops.size=n+1):(Code.region id ops true).wp P Q a w:=by
 have e:(ops.toList.take n++[ops.toList[n]'hs]).toArray=ops:=by apply Array.ext';simp only;rw [←Fv hs,BD aR]
 rw [e] at h;exact h
end
end Go
