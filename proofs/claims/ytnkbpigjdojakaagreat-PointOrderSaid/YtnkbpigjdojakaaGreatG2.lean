/- Texts YtnkbpigjdojakaaGreatPoPlain .. YtnkbpigjdojakaaGreatTmOnly, joined. What they prove: the contracts of the functions that the law reaches, and plain law. -/
import Derived.Test.YtnkbpigjdojakaaGreatG1
import Derived.WalkKit
import Derived.Maps.RangeWalk
import Derived.Test.YtnkbpigjdojakaaGreatRows
import Derived.Maps.Ext
import Derived.Maps.OwnOps
import Derived.Laws.AppendOwn
import Derived.DeepKeys4
import Derived.Lib.Hide
import Derived.BigQuiet
import Derived.Below
import Derived.LoopTactic
import Derived.Laws.StructEq
import Derived.Laws.Tables
import Derived.KernelRfl
set_option maxRecDepth 100000
set_option maxHeartbeats 6400000
theorem mG:type_of% @List.mem_map_of_mem:=@List.mem_map_of_mem
theorem dc:type_of% @List.map_append:=@List.map_append
theorem jQ:type_of% @List.map_cons:=@List.map_cons
theorem uL:type_of% @List.map_nil:=@List.map_nil
theorem MJ:type_of% @List.mem_append_right:=@List.mem_append_right
theorem iZ:type_of% @List.Perm.append_left:=@List.Perm.append_left
theorem tB:type_of% @List.flatMap_cons:=@List.flatMap_cons
theorem tC:type_of% @Array.getElem?_eq_getElem:=@Array.getElem?_eq_getElem
theorem yX:type_of% @List.filter_congr:=@List.filter_congr
theorem IP:type_of% @Array.all_eq_true:=@Array.all_eq_true
theorem nR:type_of% @Array.getElem_of_mem:=@Array.getElem_of_mem
theorem IQ:type_of% @List.mem_of_getElem?:=@List.mem_of_getElem?
theorem bf:type_of% @List.getElem?_of_mem:=@List.getElem?_of_mem
theorem aX:type_of% @List.setIfInBounds_toArray:=@List.setIfInBounds_toArray
theorem aY:type_of% @List.set_cons_zero:=@List.set_cons_zero
theorem jr:type_of% @List.set_cons_succ:=@List.set_cons_succ
theorem oO:type_of% @List.filter_cons:=@List.filter_cons
theorem lG:type_of% @List.length_filter_le:=@List.length_filter_le
theorem uM:type_of% @List.nodup_cons:=@List.nodup_cons
theorem tD:type_of% @List.map_congr_left:=@List.map_congr_left
theorem dY:type_of% @Bool.false_eq_true:=@Bool.false_eq_true
theorem dN:type_of% @List.mem_cons_self:=@List.mem_cons_self
theorem xY:type_of% @List.mem_cons_of_mem:=@List.mem_cons_of_mem
theorem yY:type_of% @List.getElem_cons_zero:=@List.getElem_cons_zero
theorem DK:type_of% @Bool.true_and:=@Bool.true_and
theorem fJ:type_of% @List.length_take:=@List.length_take
theorem gF:type_of% @List.mem_cons:=@List.mem_cons
theorem Bp:type_of% @List.not_mem_nil:=@List.not_mem_nil
theorem MK:type_of% @List.getElem?_append_left:=@List.getElem?_append_left
theorem lg:type_of% @List.getElem?_append_right:=@List.getElem?_append_right
theorem tE:type_of% @List.perm_middle:=@List.perm_middle
theorem DL:type_of% @List.mem_append_left:=@List.mem_append_left
theorem uN:type_of% @List.filterMap_cons:=@List.filterMap_cons
theorem Bq:type_of% @List.all_eq_true:=@List.all_eq_true
theorem sj:type_of% @List.nil_sublist:=@List.nil_sublist
theorem Fu:type_of% @List.filter_nil:=@List.filter_nil
variable {A:Prop}
theorem c98 (h:A:=by simpa using this):A:=h
theorem ZE (h:A:=by
 have:y.id≠m.id:=fun e=>hn.1 (e▸mG hy);simp [this]):A:=h
theorem a991 (h:A:=by
 simp only [bX.push,dc,jQ,uL]
 rw [List.nodup_append]
 refine ⟨h.keys,by simp,?_⟩
 rintro a ha b hb e
 simp only [rZ] at hb
 subst hb e
 obtain ⟨p,hp,e⟩:=List.mem_map.1 ha
 have:=List.any_eq_false.1 hno p hp
 simp [e] at this):A:=h
theorem Ip (h:A:=by simpa using e):A:=h
theorem xZ (h:A:=by simpa using hf):A:=h
theorem PG (h:A:=by
 simp only [World.setCell,Array.getElem?_modify,if_pos,this];simp):A:=h
theorem Qo (h:A:=by simpa using e2):A:=h
theorem VQ (h:A:=by simp [fk];omega):A:=h
theorem DN (h:A:=by simpa using h):A:=h
theorem c914 (h:A:=by rw [hfp];exact MJ _ hi):A:=h
theorem a999 (h:A:=by
 refine iZ _ ?_;rw [←E6,←E6];exact List.perm_append_comm.append_right _):A:=h
theorem ZR (h:A:=by
 rcases List.mem_append.1 (hp.mem_iff.1 hi) with hi|hi
 ·exact hS i hi
 ·obtain ⟨x,hx,rfl⟩:=List.mem_map.1 hi;exact h.own x hx):A:=h
theorem IU (h:A:=by simpa [gG] using hi):A:=h
theorem a958 (h:A:=by
 obtain ⟨S',s1,s2,s3⟩:=K7.store;refine ⟨⟨[(ah p st',S')],⟨rfl,fun z hz=>?_,fun x hx=>(K7.blk x hx).1,?_⟩,fun i hi=>s2 i (by simpa [gG] using hi)⟩,fun x hx=>(K7.blk x hx).2,K7.jh⟩
 ·rw [rZ] at hz;subst hz;exact ⟨s1,K7.ok⟩
 ·simp only [gG,tB,List.flatMap_nil,List.append_nil];refine List.nodup_append.2 ⟨s1.nodup,K7.apart,fun i hi j hj e=>?_⟩;obtain ⟨x,hx,rfl⟩:=List.mem_map.1 hj;exact s3 x hx (e▸hi)):A:=h
theorem Qq (h:A:=by simpa using hb):A:=h
theorem a97 (h:A:=by
 intro fuel
 induction fuel with
 | zero =>
  intro listed a w hs hc hI
  have hop:dn ops listed=[]:=List.eq_nil_of_length_eq_zero (by omega)
  have hall:∀ i,i<ops.size→listed.getD i true=true:=fun i hi=>by
   have:=List.filter_eq_nil_iff.1 hop i (List.mem_range.2 hi)
   simpa using this
  refine ⟨?_,hend _ a w (fun i hi=>?_) hI⟩
  ·unfold Region.ready
   rw [List.filter_eq_nil_iff]
   intro i hi
   rw [hall i (List.mem_range.1 hi)]
   simp
  ·have:=hall i hi
   simpa only [Array.getD,hs,hi,dif_pos] using this
 | succ fuel ih =>
  intro listed a w hs hc hI
  refine ⟨fun hr=>hend _ a w (fun i hi=>?_) hI,fun i hi=>?_⟩
  ·have:=mH hs vY hr i hi
   simpa only [Array.getD,hs,hi,dif_pos] using this
  ·obtain ⟨h1,h2,h3⟩:=fo hi
   have ho:ops[i]?=some ops[i]:=tC h1
   have BU:listed.getD i false=false:=by simpa only [Array.getD,hs,h1,dif_pos] using h2
   refine wpOp_mono (fun a' w' hI'=>ih (listed.setIfInBounds i true) a' w' (by simpa using hs) ?_ ?_) (hstep i ops[i] _ a w ho BU (h3 _ ho) hI)
   ·have hm':i∈dn ops listed:=List.mem_filter.2 ⟨List.mem_range.2 h1,by rw [h2];rfl⟩
    have hsub:dn ops (listed.setIfInBounds i true)=(dn ops listed).filter fun j=>!(j==i):=by
     unfold dn
     rw [List.filter_filter]
     apply yX
     intro j hj
     have hj':=List.mem_range.1 hj
     simp only [Array.getD,Array.size_setIfInBounds,hs,hj',dif_pos,Array.getInternal_eq_getElem,Array.getElem_setIfInBounds]
     by_cases e:i=j
     ·simp [e]
     ·simp [e,sg e]
    rw [hsub]
    have:((dn ops listed).filter fun j=>!(j==i)).length<(dn ops listed).length:=List.length_filter_lt_length_iff_exists.2 ⟨i,hm',by simp⟩
    omega
   ·have e:(fun j=>(listed.setIfInBounds i true).getD j false)=fun j=>listed.getD j false||j==i:=by
     funext j
     by_cases hj:j<listed.size
     ·simp only [Array.getD,Array.size_setIfInBounds,hj,dif_pos,Array.getInternal_eq_getElem,Array.getElem_setIfInBounds]
      by_cases e:i=j
      ·simp [e]
      ·simp [e,sg e]
     ·have:j≠i:=by omega
      simp [Array.getD,hj,this]
    rw [e]
    exact hI'):A:=h
theorem ML (h:A:=by simpa using h1):A:=h
theorem a942 (h:A:=by
 induction r with
 | nil=>intro k _ i o hi;simp at hi
 | cons o' r ih =>
  intro k h i o hi
  cases i with
  | zero =>
   simp only [List.getElem?_cons_zero,Option.some.injEq] at hi
   subst hi;exact h.1
  | succ i =>
   simp only [List.getElem?_cons_succ] at hi
   have:=ih (k+1) h.2 i o hi
   rwa [Nat.add_assoc,Nat.add_comm 1 i] at this):A:=h
theorem a980 (h:A:=by
 have:=List.all_eq_true.1 hB2 (o,i) (by rw [List.mem_zipIdx_iff_getElem?];exact ho)
 rw [IP] at this
 intro j hj
 unfold waits at hj
 obtain ⟨e,he,rfl⟩:=List.mem_map.1 hj
 obtain ⟨he1,VR⟩:=List.mem_filter.1 he
 obtain ⟨q,hq,rfl⟩:=nR (Array.mem_toList_iff.1 he1)
 have:=this q hq
 simpa [VR] using this):A:=h
theorem Z8 (h:A:=by
 have ho':l[i]?=some o:=by simpa using ho
 exact Qr i o ho' e.on (List.mem_map.2 ⟨e,List.mem_filter.2 ⟨by simpa using he,hb⟩,rfl⟩)):A:=h
theorem a943 (h:A:=by
 have hL':∀ i,i<l.length→L i=false:=fun i hi=>hL i (by simpa using hi)
 have hlt:∀ (i:Nat) (o':Oper),l[i]?=some o'→i<l.length:=fun i o' ho=>by
  rcases Ds i l.length with h|h
  ·exact h
  ·rw [List.getElem?_eq_none h] at ho;cases ho
 refine ⟨fun i j o' ho' _ hi=>(by rw [hL' i (hlt i o' ho')] at hi;cases hi),fun k=>match l[k]? with
  | some o=>match o.dst with
   | some s=>a0.eval (.tmp s)
   | none=>undef
  | none=>undef,?_,fun k u hk _ hk'=>(by rw [hL' k hk] at hk';cases hk'),h0 _ _ hL'⟩
 refine (xy a0 l 0 _ fun i o s ho hs=>?_).symm
 simp only [bF,ho,hs]):A:=h
theorem a98 (h:A:=by
 have ho':l[i]?=some o:=by simpa using ho
 have hil:i<l.length:=by
  rcases Ds i l.length with h|h
  ·exact h
  ·rw [List.getElem?_eq_none h] at ho';cases ho'
 obtain ⟨hbk,v,rfl,hF,hMx⟩:=hI
 have hW:∀ j∈waits o,L j=true:=fun j hj=>by
  unfold waits at hj
  obtain ⟨e,he,rfl⟩:=List.mem_map.1 hj
  obtain ⟨he1,VR⟩:=List.mem_filter.1 he
  rw [IP] at haft
  obtain ⟨q,hq,rfl⟩:=nR (Array.mem_toList_iff.1 he1)
  have:=haft q hq
  simpa [VR] using this
 have hwl:∀ j∈waits o,j<l.length:=fun j hj=>Nat.lt_trans (Qr i o ho' j hj) hil
 have hst:=tF.at l 0 dQ i o ho'
 rw [bF] at hst
 obtain ⟨hg,hr⟩:=hst L v x hLi hW (fun j u hj hu=>hF j u (hwl j hj) hu (hW j hj)) hbk hMx
 have hput:∀ u,(aq a0 0 l v).put o.dst u=aq a0 0 l fun j=>if j=i then u else v j:=fun u=>by
  have:=yZ u l 0 i a0 v o qb ho'
  simpa only [bF] using this
 have hbk':∀ (k j:Nat) (o':Oper),l[k]?=some o'→j∈waits o'→(L k||k==i)=true→(L j||j==i)=true:=fun k j o' hk hj h=>by
  by_cases e:k=i
  ·subst e
   rw [ho'] at hk;cases hk
   simp [hW j hj]
  ·have e':(k==i)=false:=by simpa using e
   simp only [e',pS] at h
   simp [hbk k j o' hk hj h]
 refine Qs ho hg (Oper.wp_mono ?_ hr)
 intro a' y hy
 refine ⟨hbk',?_⟩
 cases hFi:F i with
 | some u =>
  rw [hFi] at hy
  obtain ⟨rfl,hy⟩:=hy
  refine ⟨_,hput u,fun k u' hk E8 hk'=>?_,hM _ _ _ _ _ (fun k hk hn=>?_) hy⟩
  ·by_cases e:k=i
   ·subst e;rw [hFi] at E8;cases E8;exact if_pos rfl
   ·simp only [if_neg e]
    have e':(k==i)=false:=by simpa using e
    simp only [e',pS] at hk'
    exact hF k u' hk E8 hk'
  ·have e:k≠i:=fun e=>by subst e;rw [hFi] at hn;cases hn
   have e':(k==i)=false:=by simpa using e
   simp [e,e']
 | none =>
  rw [hFi] at hy
  obtain ⟨u,rfl,hy⟩:=hy
  refine ⟨_,hput u,fun k u' hk E8 hk'=>?_,hy⟩
  have e:k≠i:=fun e=>by subst e;rw [hFi] at E8;cases E8
  simp only [if_neg e]
  have e':(k==i)=false:=by simpa using e
  simp only [e',pS] at hk'
  exact hF k u' hk E8 hk'):A:=h
theorem Lv (h:A:=by
 obtain ⟨_,v,rfl,hF,hMx⟩:=hI;have hL':∀ i,i<l.length→L i=true:=fun i hi=>hL i (by simpa using hi);exact hend L v x hL' (fun k u hk hu=>hF k u hk hu (hL' k hk)) hMx):A:=h
theorem RB (h:A:=by
 have:=List.all_eq_true.1 hlen k (IQ h)
 simpa using this):A:=h
theorem a948 (h:A:=by
 have hi:i<Wr.length - 1:=by
  have:=(List.getElem?_eq_some_iff.1 hb).1;omega
 have:=List.all_eq_true.1 hch i (List.mem_range.2 hi)
 rw [ha,hb] at this
 simp only at this
 cases ho:l[b]? with
 | none=>rw [ho] at this;cases this
 | some o=>rw [ho] at this;exact ⟨o,rfl,by simpa using this⟩):A:=h
theorem a988 (h:A:=by
 obtain ⟨h1,h2⟩:=List.getElem?_eq_some_iff.1 hi;obtain ⟨h3,h4⟩:=List.getElem?_eq_some_iff.1 hj;exact (List.getElem_inj qb).1 (h2.trans h4.symm)):A:=h
theorem a944 (h:A:=by
 obtain ⟨c,rfl⟩:∃ c,i'=c+1:=⟨i' - 1,by omega⟩
 have hc:c<Wr.length:=by have:=(List.getElem?_eq_some_iff.1 hi').1;omega
 obtain ⟨o',ho',hw'⟩:=hnext c Wr[c] k (lz hc) hi'
 rw [ho] at ho';cases ho'
 have:=(h1 c _ (lz hc)).1 (hW _ hw')
 omega):A:=h
theorem a973 (h:A:=by
 intro L v hL;refine ⟨0,fun j k hk=>by rw [hL k (hlt j k hk)];simp,fun j k u _ hj=>absurd hj (Nat.not_lt_zero _),pR _,fun k hk sH=>?_,h0 L v fun k hk sH=>hL k sH⟩;rcases jw.at l 0 dQ k l[k] (lz sH) with ⟨_,h2,_⟩|⟨h1,_,h3,_⟩|⟨i,_,h2,_⟩
 ·exact absurd (by rwa [bF]) h2
 ·rw [bF] at h1 h3;exact ⟨h1,h3⟩
 ·exact absurd (by rwa [bF]) h2):A:=h
theorem Fm (h:A:=by
 intro L L' v v' x hk ⟨i,h1,h2,h3,hA,h4⟩;have hw:∀ j k,Wr[j]?=some k→L k=L' k∧(L k=true→v k=v' k):=fun j k hj=>hk k (hlt j k hj) (by simp [IQ hj]);exact ⟨i,fun j k hj=>by rw [←(hw j k hj).1];exact h1 j k hj,fun j k u hj hji hu=>((hw j k hj).2 ((h1 j k hj).2 hji)).symm.trans (h2 j k u hj hji hu),h3,hA,YP i L L' v v' x (fun k hkA sH=>hk k sH (by rw [if_neg (hA k hkA sH).1];exact (hA k hkA sH).2)) (fun j k hji hj=>(hw j k hj).2 ((h1 j k hj).2 hji)) h4⟩):A:=h
theorem a92 (h:A:=by
 refine BV l 0 fun k o ho=>?_;rw [bF];have hst:=jw.at l 0 dQ k o ho;rw [bF] at hst;intro L v x jR hW hF hbk ⟨i,h1,h2,h3,hA,h4⟩;have Fl:∀ j u,j∈waits o→F j=some u→v j=u:=fun j u hj hu=>by
  by_cases hjw:j∈Wr
  ·obtain ⟨n',hn'⟩:=bf hjw;exact h2 n' j u hn' ((h1 n' j hn').1 (hW j hj)) hu
  ·exact hF j u hj (by simp only [if_neg hjw];exact hu)
 have hun:∀ (n j:Nat) (o':Oper),Wr[n]?=some j→l[j]?=some o'→k∈waits o'→i≤n:=fun n' j o' hn' hl hk'=>by
  rcases Ds n' i with h|h
  ·have:=hbk j k o' hl hk' ((h1 n' j hn').2 h)
   rw [jR] at this;cases this
  ·exact h
 rcases hst with ⟨hnw,hna,u,hu,hst⟩|⟨hnw,hka,hu,hst⟩|⟨i',hi',hna,hst⟩
 ·obtain ⟨hg,hr⟩:=hst i L v x h4 Fl hW (fun n j hn hj=>(h1 n j hn).1 (hW j hj)) hun;refine ⟨hg,Oper.wp_mono ?_ hr⟩;rintro a' y ⟨rfl,hb⟩;simp only [if_neg hnw,hu];exact ⟨trivial,i,h1,h2,h3,hA,hI i L v x y h4 hb⟩
 ·obtain ⟨hg,hr⟩:=hst i L v x h4 jR hun;refine ⟨hg,Oper.wp_mono ?_ hr⟩;rintro a' y ⟨u,rfl,hy⟩;simp only [if_neg hnw,hu];refine ⟨u,rfl,i,fun j k' hj=>?_,fun j k' u' hj hji E8=>?_,h3,hA,hy⟩
  ·have e:k'≠k:=fun e=>hnw (e▸IQ hj);have e':(k'==k)=false:=by simpa using e
   simp only [e',pS];exact h1 j k' hj
  ·have e:k'≠k:=fun e=>hnw (e▸IQ hj);simp only [if_neg e];exact h2 j k' u' hj hji E8
 ·have VS:k∈Wr:=IQ hi';have hle:¬i'<i:=fun h=>by
   have:=(h1 i' k hi').2 h
   rw [jR] at this;cases this
  have hge:¬i<i':=fun h=>by
   obtain ⟨c,rfl⟩:∃ c,i'=c+1:=⟨i' - 1,by omega⟩
   have hc:c<Wr.length:=by have:=(List.getElem?_eq_some_iff.1 hi').1;omega
   obtain ⟨o',ho',hw'⟩:=hnext c Wr[c] k (lz hc) hi'
   rw [ho] at ho';cases ho'
   have:=(h1 c _ (lz hc)).1 (hW _ hw')
   omega
  obtain rfl:i=i':=by omega
  obtain ⟨hg,hr⟩:=hst L v x h4 hW Fl;refine ⟨hg,Oper.wp_mono ?_ hr⟩;rintro a' y ⟨u,hu,rfl,hy⟩;simp only [if_pos VS];refine ⟨u,rfl,i+1,fun j k' hj=>?_,fun j k' u' hj hji E8=>?_,?_,hA,YP _ _ _ _ _ _ (fun j hjA hjl=>?_) (fun _ _ _ _=>rfl) hy⟩
  ·by_cases e:k'=k
   ·subst e;obtain rfl:=hinj j i k' hj hi';simp
   ·have e':(k'==k)=false:=by simpa using e
    simp only [e',pS];rw [h1 j k' hj];have:j≠i:=fun h=>e (by subst h;rw [hi'] at hj;cases hj;rfl);omega
  ·by_cases e:k'=k
   ·subst e;simp only [if_true];exact hu u' E8
   ·simp only [if_neg e];have:j≠i:=fun h=>e (by subst h;rw [hi'] at hj;cases hj;rfl);exact h2 j k' u' hj (by omega) E8
  ·have:=(List.getElem?_eq_some_iff.1 hi').1;omega
  ·have e:j≠k:=fun e=>hna (e▸hjA);have e':(j==k)=false:=by simpa using e
   simp [e']):A:=h
theorem S3 (h:A:=by
 intro L v x hL hF ⟨i,h1,h2,h3,hA,h4⟩;have hi:i=Wr.length:=by
  apply Decidable.byContradiction
  intro hne
  have hlt':i<Wr.length:=by omega
  have:=(h1 i _ (lz hlt')).1 (hL _ (hlt i _ (lz hlt')))
  omega
 subst hi;refine hend L v x (fun k u hk hu=>?_) hL h4;by_cases VS:k∈Wr
 ·obtain ⟨n',hn'⟩:=bf VS;exact h2 n' k u hn' (List.getElem?_eq_some_iff.1 hn').1 hu
 ·exact hF k u hk (by simp only [if_neg VS];exact hu)):A:=h
theorem ZI (h:A:=by
 rintro i L v x y ⟨p,hp,hx⟩ hb;exact ⟨p,hp,hI p (IQ hp) L v x y hx hb⟩):A:=h
theorem YQ (h:A:=by
 rintro i L L' v v' x hL hv ⟨p,hp,hx⟩;exact ⟨p,hp,YP i p hp L L' v v' x hL hv hx⟩):A:=h
theorem a914 (h:A:=by
 intro r
 induction r with
 | nil=>intro k _;trivial
 | cons o r ih =>
  rintro k ⟨h1,h2⟩
  refine ⟨?_,ih (k+1) h2⟩
  rcases h1 with ⟨hk,hka,hg,u,hu,Lk,jR,h⟩|⟨hk,hka,hg,u,hu,h⟩|⟨hk,hka,hg,u,hu,n,j,hn,hj,h⟩|⟨hk,hka,hg,hu,n,j,o',hn,hl,hw,h⟩|⟨i,p,q,hk,hka,hg,hp,hq,h⟩
  ·refine .inl ⟨hk,hka,u,hu,fun i L v x hS hF _ _ hU=>⟨aK hg,eN hg (fun _ hb=>⟨rfl,hb⟩) ?_⟩⟩
   obtain ⟨p,hp,hx⟩:=hS
   rcases jR with rfl|⟨n,j,o',hn,hl,hw,hm⟩
   ·exact h v x (hmem p (IQ hp) L v x hx) hF
   ·exact h v x (hm i p (hU n j o' hn hl hw) hp L v x hx) hF
  ·refine .inl ⟨hk,hka,u,hu,fun i L v x hS hF _ _ _=>⟨aK hg,eN hg (fun _ hb=>⟨rfl,hb⟩) ?_⟩⟩
   obtain ⟨p,hp,hx⟩:=hS
   exact h i p hp L v x hx hF
  ·refine .inl ⟨hk,hka,u,hu,fun i L v x hS hF _ hB hU=>⟨aK hg,eN hg (fun _ hb=>⟨rfl,hb⟩) ?_⟩⟩
   obtain ⟨p,hp,hx⟩:=hS
   exact h i p (hB n j hn hj) hp L v x hx hF
  ·refine .inr (.inl ⟨hk,hka,hu,fun i L v x hS jR hU=>⟨aK hg,?_⟩⟩)
   obtain ⟨p,hp,hx⟩:=hS
   refine Oper.wp_mono ?_ (h i p (hU n j o' hn hl hw) hp L v x hx jR)
   rintro a' y ⟨u,h1,h2⟩
   exact ⟨u,h1,p,hp,h2⟩
  ·refine .inr (.inr ⟨i,hk,hka,fun L v x hS hL hF=>⟨aK hg,?_⟩⟩)
   obtain ⟨p',hp',hx⟩:=hS
   obtain rfl:p=p':=Option.some.inj (hp.symm.trans hp')
   refine Oper.wp_mono ?_ (h L v x hx (hmem p (IQ hp) L v x hx) hL hF)
   rintro a' y ⟨u,h1,h2,h3⟩
   exact ⟨u,h1,h2,q,hq,h3⟩):A:=h
theorem UN (h:A:=by
 rintro L v x hv hL ⟨p,hp,hx⟩;obtain rfl:pz=p:=Option.some.inj (YT.symm.trans hp);exact hend L v x hv hL hx):A:=h
theorem aai (h:A:=by
 obtain ⟨j,hj⟩:=bf hp;exact (uO.at _ 0 hok j p hj).mem D v x h):A:=h
theorem Zb (h:A:=by
 obtain ⟨j,hj⟩:=bf hp;exact (uO.at _ 0 hok j p hj).later D v x y h hb):A:=h
theorem UQ (h:A:=by
 have:=(uO.at _ 0 hok i p hp).turn D D' v v' x hD
 rw [bF] at this
 exact this hv h):A:=h
theorem a981 (h:A:=by
 have hD0:∀ e∈A0,D e.1=false:=fun e he=>by
  have hm:e.1∈Al:=by rw [←hA0];exact mG (f:=(·.1)) he
  exact hD e.1 hm (hlt _ hm)
 refine ⟨(),fun _=>0,trivial,(lH _).2 fun e he h=>?_,?_⟩
 ·rw [hD0 e he] at h;cases h
 ·rw [Qu _ _ hD0];exact hN.later (Below.refl _ _).drew):A:=h
theorem a968 (h:A:=by
 obtain ⟨S',s1,s2,s3⟩:=h.store;refine ⟨⟨[(ah p st,S')],⟨rfl,fun z hz=>?_,fun x hx=>(h.blk x hx).1,?_⟩,fun i hi=>s2 i (by simpa [gG] using hi)⟩,fun x hx=>(h.blk x hx).2,h.jh⟩
 ·rw [rZ] at hz;subst hz;exact ⟨s1,h.ok⟩
 ·simp only [gG,tB,List.flatMap_nil,List.append_nil];refine List.nodup_append.2 ⟨s1.nodup,h.apart,fun i hi j hj e=>?_⟩;obtain ⟨x,hx,rfl⟩:=List.mem_map.1 hj;exact s3 x hx (e▸hi)):A:=h
theorem Ms (h:A:=by
 simpa only [aX,aY,jr] using g):A:=h
theorem TH (h:A:=by
 go_wp2_with fail;exact bodyPost_ret (v:=.tuple #[.agg (tL),.bool false]) (by simp [results,Tryz.results41,go_sem]) rfl ⟨rfl,(Below.refl _ _).alloc (cC _) _⟩):A:=h
theorem ze (h:A:=by simp [af.partsOf]):A:=h
theorem yf (h:A:=by
 refine Qv (cs:=(tL)) ?_ rfl;repeat (first|with_reducible exact K.out|refine VT (by omega) ?_)):A:=h
theorem rH (h:A:=by
 repeat (first|with_reducible exact HB.out|with_reducible refine Below.setCell ?_ (show _≤_ by simp<;>omega) _)):A:=h
theorem QM (h:A:=by
 go_wp2_with fail;refine wp_loop_rounds 4 ?_;simp only [rounds_succ];go_wp2_with fail;refine eI (Q:=fun W=>bodyPost _ _ _ _ _ W) (fun W=>W.heap[w.heap.size+1]?=some (cl #[vI 1,vS s,vU 0,vI 0,vI 0,vI 0] 95)∧Below w.heap.size w W) ⟨?_,?_⟩ ?_
 ·exact yf
 ·exact rH
 ·rintro W ⟨hx,hb⟩;exact bodyPost_ret (v:=.agg #[vI 1,vS s,vU 0,vI 0,vI 0,vI 0]) (by simp [results,Tryz.results108,go_sem,World.cell?,hx]) rfl ⟨rfl,hb⟩):A:=h
theorem a970 (h:A:=by
 go_wp2_with fail;refine wp_loop_rounds 4 ?_;simp only [rounds_succ];go_wp2_with fail;refine eI (Q:=fun W=>bodyPost _ _ _ _ _ W) (fun W=>W.heap[w.heap.size+1]?=some (cl #[vI 2,.string ⟨#[]⟩,vU n,vI 0,vI 0,vI 0] 95)∧Below w.heap.size w W) ⟨?_,?_⟩ ?_
 ·exact yf
 ·exact rH
 ·rintro W ⟨hx,hb⟩;exact bodyPost_ret (v:=.agg #[vI 2,.string ⟨#[]⟩,vU n,vI 0,vI 0,vI 0]) (by simp [results,Tryz.results108,go_sem,World.cell?,hx]) rfl ⟨rfl,hb⟩):A:=h
theorem a969 (h:A:=by
 go_wp2_with fail;refine wp_loop_rounds 4 ?_;simp only [rounds_succ];go_wp2_with fail;refine eI (Q:=fun W=>bodyPost _ _ _ _ _ W) (fun W=>W.heap[w.heap.size+1]?=some (cl #[vI k,.string ⟨#[]⟩,vU 0,vI 0,vI 0,vI 0] 95)∧Below w.heap.size w W) ⟨?_,?_⟩ ?_
 ·exact yf
 ·exact rH
 ·rintro W ⟨hx,hb⟩;exact bodyPost_ret (v:=.agg #[vI k,.string ⟨#[]⟩,vU 0,vI 0,vI 0,vI 0]) (by simp [results,Tryz.results108,go_sem,World.cell?,hx]) rfl ⟨rfl,hb⟩):A:=h
namespace af
variable {id i:Nat} {s:List UInt8}
structure bX where
 id:Nat
 count:Nat
 since:Nat
 parts:List (Nat×List UInt8)
def pV (l:List (Nat×List UInt8)):Nat:=(l.map fun p=>p.2.length).sum
def bX.bytes (m:bX):Nat:=pV m.parts
def bX.old (now:Nat) (m:bX):Bool:=decide (m.since<now∧50<now - m.since)
structure aP where
 slots:Nat
 room:Nat
 l:List bX
def cM (l:List bX):Nat:=(l.map bX.bytes).sum
def aP.held (p:aP):Nat:=cM p.l
def aP.expire (p:aP) (now:Nat):aP:=⟨p.slots,p.room,p.l.filter fun m=>!m.old now⟩
def aP.find (p:aP) (id:Nat):Option bX:=p.l.find? fun m=>m.id==id
def aP.without (p:aP) (id:Nat):aP:=⟨p.slots,p.room,p.l.filter fun m=>!(m.id==id)⟩
def bX.push (m:bX) (i:Nat) (s:List UInt8):bX:=⟨m.id,m.count,m.since,m.parts++[(i,s)]⟩
def aP.put (p:aP) (id i:Nat) (s:List UInt8):aP:=⟨p.slots,p.room,p.l.map fun m=>if m.id==id then m.push i s else m⟩
def aP.begin (p:aP) (m:bX):aP:=⟨p.slots,p.room,p.l++[m]⟩
def partAt (l:List (Nat×List UInt8)) (i:Nat):List UInt8:=((l.find? fun p=>p.1==i).map (·.2)).getD []
def whole (l:List (Nat×List UInt8)) (n:Nat):List UInt8:=(List.range n).flatMap (partAt l)
def aP.step (q:aP) (f:bC) (now:Nat):aP×List UInt8×Bool×Nat :=
 match q.find f.id with
 | none =>
  if q.slots≤q.l.length∨q.room<q.held+f.part.length then (q,[],false,8)
  else (q.begin ⟨f.id,f.count.toNat,now,[(f.index.toNat,f.part)]⟩,[],false,0)
 | some m =>
  if (m.count:Int)≠f.count then (q,[],false,3)
  else if (m.parts.any fun p=>p.1==f.index.toNat)=true then (q,[],false,6)
  else if q.room<q.held+f.part.length then (q,[],false,8)
  else if m.parts.length+1≠m.count then (q.put f.id f.index.toNat f.part,[],false,0)
  else if 4096<(whole (m.push f.index.toNat f.part).parts m.count).length then (q.without f.id,[],false,4)
  else (q.without f.id,whole (m.push f.index.toNat f.part).parts m.count,true,0)
def aP.add (p:aP) (f:bC) (now:Nat):aP×List UInt8×Bool×Nat :=
 if ¬f.ok then (p,[],false,1)
 else if f.count=1 then (p.expire now,f.part,true,0)
 else (p.expire now).step f now
structure bX.Ok (m:bX):Prop where
 id1:1≤m.id
 id2:m.id≤4294967296
 c1:2≤m.count
 c2:m.count≤16
 some:1≤m.parts.length
 few:m.parts.length<m.count
 keys:(m.parts.map (·.1)).Nodup
 each:∀ p∈m.parts,p.1<m.count∧1≤p.2.length∧p.2.length≤1000
 since:m.since<18446744073709551616
structure aP.Ok (p:aP):Prop where
 s1:p.slots≤16
 r1:p.room≤65536
 len:p.l.length≤p.slots
 held:p.held≤p.room
 ids:(p.l.map (·.id)).Nodup
 each:∀ m∈p.l,m.Ok
theorem ji (m:bX) (l:List bX):cM (m::l)=m.bytes+cM l:=by simp [cM]
theorem iI (l l':List bX):cM (l++l')=cM l+cM l':=by simp [cM]
theorem kM (p:bX→Bool):∀ l:List bX,cM (l.filter p)≤cM l
 | []=>cC _
 | m::l=>by
  have:=kM p l
  rw [oO]
  split<;>simp only [ji]<;>omega
theorem vZ (l:List (Nat×List UInt8)) (i:Nat) (s:List UInt8):pV (l++[(i,s)])=pV l+s.length:=by simp [pV]
theorem rO (x:Nat×List UInt8) (l:List (Nat×List UInt8)):pV (x::l)=x.2.length+pV l:=by simp [pV]
theorem aP.Ok.expire {p:aP} (h:p.Ok) (now:Nat):(p.expire now).Ok :=
 ⟨h.s1,h.r1,Fc (lG _ _) h.len,Fc (kM _ _) h.held,(List.filter_sublist.map _).nodup h.ids,fun m hm=>h.each m (List.mem_filter.1 hm).1⟩
theorem aP.Ok.without {p:aP} (h:p.Ok) (id:Nat):(p.without id).Ok :=
 ⟨h.s1,h.r1,Fc (lG _ _) h.len,Fc (kM _ _) h.held,(List.filter_sublist.map _).nodup h.ids,fun m hm=>h.each m (List.mem_filter.1 hm).1⟩
theorem kr {p:aP} (h:p.find id=none):∀ m∈p.l,m.id≠id:=fun m hm e=>by
 have:=List.find?_eq_none.1 h m hm
 simp [e] at this
theorem ku {p:aP} {m:bX} (h:p.find id=some m):m∈p.l∧m.id=id :=
 ⟨List.mem_of_find?_eq_some h,by simpa using List.find?_some h⟩
theorem qm {p:aP} (h:p.Ok) {m:bX} (hm:m∈p.l):p.find m.id=some m:=by
 have hn:=h.ids
 unfold aP.find
 clear h
 generalize p.l=L at hm hn ⊢
 induction L with
 | nil=>simp at hm
 | cons x l ih =>
  rw [jQ,uM] at hn;rcases List.mem_cons.1 hm with rfl|hm
  ·simp
  ·have:x.id≠m.id:=fun e=>hn.1 (e▸mG hm);rw [List.find?_cons_of_neg c98];exact ih hm hn.2
theorem uP:∀ {l:List bX} {x y:bX},(l.map (·.id)).Nodup→x∈l→y∈l→x.id=y.id→x=y
 | [],_,_,_,h,_,_=>absurd h aH
 | a::l,x,y,hn,hx,hy,e=>by
  rw [jQ,uM] at hn;rcases List.mem_cons.1 hx with h1|h1<;>rcases List.mem_cons.1 hy with h2|h2
  ·rw [h1,h2]
  ·exact absurd (by rw [←h1,e];exact mG (f:=(·.id)) h2) hn.1
  ·exact absurd (by rw [←h2,←e];exact mG (f:=(·.id)) h1) hn.1
  ·exact uP hn.2 h1 h2 e
theorem K8 (p:aP) (id i:Nat) (s:List UInt8):((p.put id i s).l.map (·.id))=p.l.map (·.id):=by simp only [aP.put,List.map_map];apply tD;intro m _;simp only [Function.comp];split<;>rfl
theorem Be {p:aP} (h:p.Ok) {m:bX} (hf:p.find id=some m):(p.put id i s).held=p.held+s.length:=by
 obtain ⟨hm,rfl⟩:=ku hf
 have hn:=h.ids
 unfold aP.held aP.put
 clear h hf
 simp only
 generalize p.l=L at hm hn ⊢
 induction L with
 | nil=>simp at hm
 | cons x l ih =>
  rw [jQ,uM] at hn;rw [jQ,ji,ji];rcases List.mem_cons.1 hm with rfl|hm
  ·have hr:(l.map fun y=>if y.id==m.id then y.push i s else y)=l:=by
    conv=>rhs;rw [←List.map_id l]
    apply tD
    intro y hy
    exact ZE
   rw [hr];simp [bX.bytes,bX.push,vZ];omega
  ·have hx:x.id≠m.id:=fun e=>hn.1 (e▸mG hm)
   have:=ih hm hn.2
   have e:(x.id==m.id)=false:=by simpa using hx
   rw [e]
   simp only [dY,if_false]
   omega
theorem uQ {p:aP} (h:p.Ok) {m:bX} (hm:m∈p.l):(p.without m.id).held+m.bytes=p.held:=by
 have hn:=h.ids
 unfold aP.held aP.without
 clear h
 simp only
 generalize p.l=L at hm hn ⊢
 induction L with
 | nil=>simp at hm
 | cons x l ih =>
  rw [jQ,uM] at hn;rw [oO,ji];rcases List.mem_cons.1 hm with rfl|hm
  ·have hr:(l.filter fun y=>!(y.id==m.id))=l:=List.filter_eq_self.2 fun y hy=>by exact ZE
   rw [hr];simp;omega
  ·have:x.id≠m.id:=fun e=>hn.1 (e▸mG hm)
   have:=ih hm hn.2
   simp [*,ji]
   omega
theorem Fo {p:aP} (h:p.Ok) {m:bX} (hm:m∈p.l):(p.without m.id).l.length+1=p.l.length:=by
 have hn:=h.ids
 unfold aP.without
 clear h
 simp only
 generalize p.l=L at hm hn ⊢
 induction L with
 | nil=>simp at hm
 | cons x l ih =>
  rw [jQ,uM] at hn;rw [oO,yQ];rcases List.mem_cons.1 hm with rfl|hm
  ·have hr:(l.filter fun y=>!(y.id==m.id))=l:=List.filter_eq_self.2 fun y hy=>by exact ZE
   rw [hr];simp
  ·have:x.id≠m.id:=fun e=>hn.1 (e▸mG hm)
   have:=ih hm hn.2
   simp [*]
theorem VU {m:bX} (h:m.Ok) (hi:i<m.count) (h1:1≤s.length) (h2:s.length≤1000) (hno:(m.parts.any fun p=>p.1==i)=false) (DR:m.parts.length+1≠m.count):(m.push i s).Ok where
 id1:=h.id1
 id2:=h.id2
 c1:=h.c1
 c2:=h.c2
 since:=h.since
 some:=by simp [bX.push]
 few:=by have:=h.few;simp only [bX.push,E5,List.length_singleton];omega
 keys:=by exact a991
 each:=fun p hp=>by
  simp only [bX.push,Io,rZ] at hp;rcases hp with hp|rfl
  ·exact h.each p hp
  ·exact ⟨hi,h1,h2⟩
theorem yE {q:aP} (h:q.Ok) {f:bC} (hf:f.ok) (hc:f.count≠1) {now:Nat} (hn:now<18446744073709551616):(q.step f now).1.Ok:=by
 obtain ⟨k1,k2,k3,k4,k5,k6,k7,k8⟩:=hf;unfold aP.step;split
 ·rename_i Vq;split
  ·exact h
  ·rename_i hno;refine ⟨h.s1,h.r1,?_,?_,?_,?_⟩
   ·simp only [aP.begin,E5,List.length_singleton];omega
   ·show cM (q.l++[_])≤q.room;rw [iI,ji];simp [bX.bytes,pV,cM];have:q.held=cM q.l:=rfl;simp only [cM] at this;omega
   ·simp only [aP.begin,dc,jQ,uL];rw [List.nodup_append];refine ⟨h.ids,aH,?_⟩;rintro a ha b hb e;simp only [rZ] at hb;subst hb e;obtain ⟨m,hm,e⟩:=List.mem_map.1 ha;exact kr Vq m hm e
   ·intro m hm;simp only [aP.begin,Io,rZ] at hm;rcases hm with hm|rfl
    ·exact h.each m hm
    ·refine ⟨k1,k2,?_,?_,aH,?_,aH,?_,hn⟩
     ·show 2≤f.count.toNat;omega
     ·show f.count.toNat≤16;omega
     ·show 1<f.count.toNat;omega
     ·intro p hp;simp only [rZ] at hp;subst hp;exact ⟨by show f.index.toNat<f.count.toNat;omega,k7,k8⟩
 ·rename_i m Vq;obtain ⟨hm,hid⟩:=ku Vq;split
  ·exact h
  ·split
   ·exact h
   ·split
    ·exact h
    ·split
     ·rename_i c1 c2 c3 c4;refine ⟨h.s1,h.r1,?_,?_,?_,?_⟩
      ·simpa [aP.put] using h.len
      ·rw [Be h Vq];show _≤q.room;omega
      ·rw [K8];exact h.ids
      ·intro m' hm';simp only [aP.put,List.mem_map] at hm';obtain ⟨x,hx,rfl⟩:=hm';split
       ·rename_i e;have e':x.id=f.id:=Ip;have:x=m:=by
         have:=qm h hx
         rw [e',Vq] at this
         exact (Option.some.inj this).symm
        subst this;exact VU (h.each x hx) ax k7 k8 (Bool.eq_false_iff.2 c2) ax
       ·exact h.each x hx
     ·split
      ·exact h.without _
      ·exact h.without _
theorem add_ok {p:aP} (h:p.Ok) {f:bC} {now:Nat} (hn:now<18446744073709551616):(p.add f now).1.Ok:=by
 unfold aP.add;split
 ·exact h
 ·rename_i hf;split
  ·exact h.expire now
  ·rename_i hc;exact yE (h.expire now) xZ hc hn
end af
namespace Go
open Go.RowKit
variable {w W:World} {L:List (Nat×Obj)} {k:Nat} {o:Obj}
def gC (W:World) (b:Nat):Nat→List Value→Prop
 | _,[]=>True
 | i,v::vs=>W.cell? ⟨b,i,none⟩=some v∧W.frozen? ⟨b,i,none⟩=false∧gC W b (i+1) vs
def bZ (W:World):List (Nat×Obj)→Prop
 | []=>True
 | (k,.cells cs _ (0,0))::L=>gC W k 0 cs.toList∧bZ W L
 | _::L=>bZ W L
structure Mem (w:World) (L:List (Nat×Obj)) (W:World):Prop where
 dZ:Below w.heap.size w W
 blk:∀ p∈L,W.heap[p.1]?=some p.2
theorem Mem.start (w:World):Mem w [] w:=⟨Below.refl _ _,fun _ h=>absurd h aH⟩
theorem Mem.later {W':World} (h:Mem w L W) (hb:Below W.heap.size W W'):Mem w L W' :=
 ⟨h.dZ.trans (hb.mono h.dZ.size),fun p hp=>(hb.block _ (lt_of_block (h.blk p hp))).trans (h.blk p hp)⟩
theorem Mem.alloc (h:Mem w L W) (o:Obj):Mem w ((W.heap.size,o)::L) (W.alloc o) :=
 ⟨h.dZ.alloc h.dZ.size o,fun p hp=>by
  rcases List.mem_cons.1 hp with rfl|hp
  ·exact heap_alloc_new _ _
  ·exact (Below.heap_alloc _ _ _ (lt_of_block (h.blk p hp))).trans (h.blk p hp)⟩
theorem Mem.with {w W:World} {L:List (Nat×Obj)} (h:Mem w L W) {k:Nat} {o:Obj} (hk:W.heap[k]?=some o):Mem w ((k,o)::L) W :=
 ⟨h.dZ,fun p hp=>by
  rcases List.mem_cons.1 hp with rfl|hp
  ·exact hk
  ·exact h.blk p hp⟩
theorem Mem.sub {L':List (Nat×Obj)} (h:Mem w L W) (hs:∀ p∈L',p∈L):Mem w L' W:=⟨h.dZ,fun p hp=>h.blk p (hs p hp)⟩
theorem Mem.get (h:Mem w L W) (i:Nat) (hi:L[i]?=some (k,o)):W.heap[k]?=some o:=h.blk (k,o) (IQ hi)
theorem Mem.lt (h:Mem w L W) (i:Nat) (hi:L[i]?=some (k,o)):k<W.heap.size:=lt_of_block (h.get i hi)
theorem Mem.set {cs:Array Value} {T:TypeId} (h:Mem w ((k,.cells cs T (0,0))::L) W) (hk:w.heap.size≤k) (hL:∀ p∈L,p.1≠k) (i:Nat) (v:Value) :
 Mem w ((k,.cells (cs.setIfInBounds i v) T (0,0))::L) (W.setCell ⟨k,i,none⟩ v) :=
 ⟨h.dZ.setCell hk v,fun p hp=>by
  rcases List.mem_cons.1 hp with rfl|hp'
  ·have:=h.blk (k,.cells cs T (0,0)) (dN ..)
   exact PG
  ·rw [Below.heap_setCell _ _ _ _ (hL p hp')];exact h.blk p (xY _ hp')⟩
theorem zg {W:World} {k:Nat} {cs:Array Value} {T:TypeId} (h:W.heap[k]?=some (.cells cs T (0,0))):∀ (vs:List Value) (i:Nat),(∀ j (hj:j<vs.length),cs[i+j]?=some vs[j])→gC W k i vs
 | [],_,_=>trivial
 | v::vs,i,hv=>⟨by have:=hv 0 (by simp);simp only [Nat.add_zero,yY] at this;simp only [World.cell?,h,Option.isSome_none,dY,if_false,this],by simp [World.frozen?,h],zg h vs (i+1) fun j hj=>by
  have:=hv (j+1) (by simpa using hj)
  simpa [Nat.add_assoc,Nat.add_comm 1 j] using this⟩
theorem Mem.rules:∀ {L:List (Nat×Obj)},Mem w L W→bZ W L
 | [],_=>trivial
 | (k,o)::L,h=>by
  have ht:bZ W L:=Mem.rules (h.sub fun p hp=>xY _ hp);have hh:=h.blk (k,o) (dN ..);unfold bZ;split
  ·rename_i heq;cases heq
  ·rename_i heq;simp only [List.cons.injEq,Prod.mk.injEq] at heq;obtain ⟨⟨rfl,rfl⟩,rfl⟩:=heq;exact ⟨zg hh _ _ fun j hj=>by simp at hj ⊢,ht⟩
  ·rename_i heq;obtain ⟨_,rfl⟩:=List.cons.inj heq;exact ht
theorem Mem.ei (h:Mem w L W):∀ x:Later W,bZ x.world L:=fun x=>(h.later x.below).rules
end Go
namespace Go.Proofs.N0
open Go.RowKit Go.Maps Go.ChangeMaps
variable {S S':List Nat} {w w':World}
structure az (S:List Nat) (w w':World):Prop where
 os:w'.os=w.os
 tape:w'.tape=w.tape
 output:w'.output=w.output
 size:w.heap.size≤w'.heap.size
 block:∀ i,i<w.heap.size→i∉S→w'.heap[i]?=w.heap[i]?
theorem az.refl (S:List Nat) (w:World):az S w w:=⟨rfl,rfl,rfl,cC _,fun _ _ _=>rfl⟩
theorem az.trans {a b c:World} (h:az S a b) (k:az S' b c) (hS:∀ i∈S',i∈S∨a.heap.size≤i):az S a c :=
 ⟨k.os.trans h.os,k.tape.trans h.tape,k.output.trans h.output,Fc h.size k.size,fun i hi hn =>
  (k.block i (Nat.lt_of_lt_of_le hi h.size) (fun e=>(hS i e).elim (fun e=>hn e) (fun e=>ax))).trans (h.block i hi hn)⟩
theorem az.below (h:Below w.heap.size w w'):az S w w':=⟨h.os,h.tape,h.output,h.size,fun i hi _=>h.block i hi⟩
theorem az.toBelow {B:Nat} (h:az S w w') (hS:∀ i∈S,B≤i) (hB:B≤w.heap.size):Below B w w' :=
 ⟨h.os,h.tape,h.output,h.size,fun i hi=>h.block i ax (fun e=>by have:=hS i e;omega)⟩
theorem az.grown {row:Option Nat} (h:w.grownBy w' row) (hS:∀ i,row=some i→i∈S∨w.heap.size≤i):az S w w' :=
 ⟨h.os,h.tape,h.output,h.size,fun i hi hn=>h.block i hi (fun e=>(hS i e.symm).elim (fun e=>hn e) (fun e=>ax))⟩
theorem az.mono (h:az S w w') (hS:∀ i∈S,i∈S'):az S' w w':=⟨h.os,h.tape,h.output,h.size,fun i hi hn=>h.block i hi fun e=>hn (hS i e)⟩
theorem az.setCell {a:Addr} (ha:a.block∈S) (v:Value):az S w (w.setCell a v) :=
 ⟨rfl,rfl,rfl,by simp [World.setCell],fun i _ hn=>Below.heap_setCell _ _ _ _ (fun e=>hn (e▸ha))⟩
theorem az.mem {w0:World} {L L':List (Nat×Obj)} (h:az S w w') (hm:Mem w0 L w) (hS:∀ i∈S,w0.heap.size≤i) (hL:∀ p∈L',p∈L∧p.1∉S):Mem w0 L' w' :=
 ⟨hm.dZ.trans (h.toBelow hS hm.dZ.size),fun p hp=>(h.block _ (lt_of_block (hm.blk p (hL p hp).1)) (hL p hp).2).trans (hm.blk p (hL p hp).1)⟩
end Go.Proofs.N0
namespace Go.Proofs.N0
open Go.RowKit Go.Maps Go.ChangeMaps
variable {d base e size n g cap i p k:Nat} {T:TypeId} {t u:af.Term} {w w' w0 W:World} {xs:List Value} {st st':af.Store} {S:List Nat} {cs args:Array Value} {P:Program} {f:FuncId} {E:Ending} {o:Obj} {B L1 L:List (Nat×Obj)}
theorem Qw:laidOutB Tryz.prog=true:=aI
theorem VV:Keyed Tryz.prog 95:=Keyed.of_law (deep_law_laid Qw (m:=3) ax (of_decide_eq_true aI) aI aI)
def fk (t:af.Term):List Value:=[vI t.k,vS t.s,vU t.n,vI t.a,vI t.b,vI t.c]
noncomputable def Bt (t:af.Term):Lit:=(keyOf Tryz.prog 95 (.agg (fk t).toArray)).getD (.bool false)
theorem uR {q:IntKind} {x:Int} (hu:Tryz.prog.underlying T=some (.int q)) (hw:(Lit.int q x).wf=true):Tryz.prog.keyLits (d+1) T [.int q x]=some [.int q x]:=by unfold Program.keyLits;rw [hu];simp [hw]
theorem VW {s:ByteArray} (hu:Tryz.prog.underlying T=some .string) (hw:s.size≤maxLen):Tryz.prog.keyLits (d+1) T [.string s]=some [.string s.data.toList]:=by unfold Program.keyLits;rw [hu];simp [hw]
theorem zh (h:t.Wf):keyOf Tryz.prog 95 (.agg (fk t).toArray)=some (Bt t):=by
 have:∃ l,keyOf Tryz.prog 95 (.agg (fk t).toArray)=some l:=by
  have hu:Tryz.prog.underlying 95=some (.struct (Tryz.prog.fieldsOf 95)):=aI;have hk:Tryz.prog.keyType 95=true:=aI;have hz:Tryz.prog.cellsOf 95=6:=aI;obtain ⟨d,hd⟩:∃ d,Tryz.prog.types.size+1=d+2:=⟨Tryz.prog.types.size - 1,aI⟩
  unfold keyOf;rw [hu];simp only [hk,Value.formed,hu,hz,DK];rw [hd];have c3:Tryz.prog.cellsOf 3=1:=aI;have c9:Tryz.prog.cellsOf 9=1:=aI;have c8:Tryz.prog.cellsOf 31=1:=aI;have hs:(⟨t.s.toArray⟩:ByteArray).size≤maxLen:=by rw [KZ];exact h.s
  have k1:=uR (d:=d) Tryz.underlying3 (WalkArith.wf_i64 (n:=t.k) (by have:=h.k;omega));have k2:=VW (d:=d) Tryz.underlying9 hs;have k3:=uR (d:=d) Tryz.underlying31 (WalkArith.wf_u64 (n:=(t.n:Int)) (by have:=h.n;omega));have k4:=uR (d:=d) Tryz.underlying3 (WalkArith.wf_i64 (n:=t.a) (by have:=h.a;omega));have k5:=uR (d:=d) Tryz.underlying3 (WalkArith.wf_i64 (n:=t.b) (by have:=h.b;omega));have k6:=uR (d:=d) Tryz.underlying3 (WalkArith.wf_i64 (n:=t.c) (by have:=h.c;omega));unfold Program.keyLits;rw [hu];simp only [Program.fieldsOf,Tryz.underlying95,hz];simp [fk,Value.cells,c3,c9,c8,k1,k2,k3,k4,k5,k6]
 obtain ⟨l,hl⟩:=this;unfold Bt;rw [hl];rfl
theorem IV (h:t.Wf):WideAt.IsKeyLit (Bt t):=by have h1:=zh h;exact VV.key h1
theorem MN (h:(Value.agg (fk t).toArray)=.agg (fk u).toArray):t=u:=by
 have h1:fk t=fk u:=by
  have:=congrArg (fun v=>match v with|Value.agg cs=>cs.toList|_=>[]) h
  simpa using this
 unfold fk at h1;simp only [List.cons.injEq,Value.int.injEq,Value.string.injEq,ByteArray.mk.injEq,true_and,and_true] at h1;obtain ⟨e1,e2,e3,e4,e5,e6⟩:=h1;obtain ⟨k,s,n,a,b,c⟩:=t;obtain ⟨k',s',n',a',b',c'⟩:=u;simp only at e1 e2 e3 e4 e5 e6;have e2:s=s':=Qo;have e3:n=n':=ax;subst e1 e2 e3 e4 e5 e6;rfl
theorem Fp (ht:t.Wf) (hu:u.Wf) (h:Bt t=Bt u):t=u :=
 MN (VV.inj (zh ht) (by rw [h];exact zh hu))
abbrev mkI (n:Nat):DataW Unit:=.lit (.int .i64 n)
structure nC (D:DataW Unit) (l:List af.Term):Prop where
 tidy:Tidy D
 has:∀ t,t.Wf→Maps.has D (Bt t)=decide (t∈l)
 at_:∀ i (h:i<l.length) zd,D.atKey (Bt l[i]) zd=mkI (i+1)
 size:Maps.size D=l.length
theorem nC.start:nC (.map []) []:=⟨tidy_empty,fun _ _=>by simp [Maps.has],fun i h=>absurd h aH,rfl⟩
theorem nC.put {D:DataW Unit} {l:List af.Term} (h:nC D l) (ht:t.Wf) (hl:∀ u∈l,u.Wf) (hn:t∉l):nC (D.put (Bt t) (mkI (l.length+1))) (l++[t]):=by
 refine ⟨h.tidy.put (IV ht) _,fun u hu=>?_,fun i hi zd=>?_,?_⟩
 ·by_cases e:u=t
  ·subst e;rw [has_put_same h.tidy.isMap (IV ht)];simp
  ·rw [has_put_other (fun e'=>e (Fp hu ht e')),h.has u hu];simp [e]
 ·simp only [E5,List.length_singleton] at hi;by_cases e:i<l.length
  ·have hne:l[i]≠t:=fun e'=>hn (e'▸KX e);rw [List.getElem_append_left e,atKey_put_other (fun e'=>hne (Fp (hl _ (KX e)) ht e')),h.at_ i e]
  ·obtain rfl:i=l.length:=ax;rw [List.getElem_append_right (cC _)];simp only [Nat.sub_self,yY];rw [atKey_put_same h.tidy.isMap (IV ht)]
 ·rw [size_put h.tidy,h.has t ht,h.size];simp [hn]
def DT (st:af.Store):List Value:=fk af.uz++st.l.flatMap fk
def IW (lb cap db iJ mb n most:Nat):Array Value:=#[vL lb 0 n cap,vL db 0 n iJ,.map (some mb),vI most]
structure gV (w:World) (p lb cap db iJ mb:Nat) (st:af.Store) (ds:List Nat) (D:DataW Unit):Prop where
 box:w.heap[p]?=some (cl (IW lb cap db iJ mb (st.l.length+1) st.most) 170)
 row:w.ownsRow 0 95 6 (vL lb 0 (st.l.length+1) cap) (st.l.length+1) (DT st)
 deep:w.ownsRow 0 3 1 (vL db 0 (st.l.length+1) iJ) (st.l.length+1) (ds.map fun d:Nat=>Value.int .i64 (d:Int))
 low:∀ d∈ds,d≤st.l.length
 map:w.ownsMap Tryz.prog 95 (plainElem (H:=Unit) Tryz.prog 3) mb st.l.length D
 names:nC D st.l
 apart:[p,lb,db,mb].Nodup
def aC (w:World) (p:Nat) (st:af.Store) (S:List Nat):Prop:=∃ lb cap db iJ mb ds D,gV w p lb cap db iJ mb st ds D∧S=[p,lb,db,mb]
theorem bS (h:w.ownsRow base e size (vL g 0 n cap) n xs):∃ cur,w.heap[g]?=some (.cells cur e (0,0))∧n≤cap∧cap≤maxLen∧cur.size=cap*size∧cur.toList.take (n*size)=xs:=by
 rcases h.2 with ⟨h1,_⟩|⟨g',cap',cur,hv,_,h2,h3,h4,h5,h6⟩
 ·cases h1
 ·cases hv;exact ⟨cur,h2,h3,h4,h5,h6⟩
theorem bT (h:w.ownsRow base e size (vL g 0 n cap) n xs) (e':w'.heap[g]?=w.heap[g]?):w'.ownsRow base e size (vL g 0 n cap) n xs:=by
 refine ⟨h.1,?_⟩;rcases h.2 with ⟨h1,_⟩|⟨g',cap',cur,hv,hb,h2,r⟩
 ·cases h1
 ·cases hv;exact .inr ⟨g,cap,cur,rfl,hb,e'.trans h2,r⟩
theorem uS (h:w.ownsRow base e size (vL g 0 n cap) n xs) {v:Value} (hi:xs[i]?=some v):w.cell? ⟨g,i,none⟩=some v:=by
 obtain ⟨cur,h1,_,_,_,h5⟩:=bS h;have:cur[i]?=some v:=by
  rw [←h5] at hi;have hlt:i<n*size:=by
   have:=(List.getElem?_eq_some_iff.1 hi).1
   rw [fJ] at this
   omega
  rw [List.getElem?_take_of_lt hlt] at hi;simpa using hi
 simp [World.cell?,h1,this]
theorem gV.lt {lb db iJ mb:Nat} {ds:List Nat} {D:DataW Unit} (h:gV w p lb cap db iJ mb st ds D):∀ i∈[p,lb,db,mb],i<w.heap.size:=by
 intro i hi;simp only [gF,Bp,or_false] at hi;rcases hi with rfl|rfl|rfl|rfl
 ·exact lt_of_block h.box
 ·obtain ⟨cur,h1,_⟩:=bS h.row;exact lt_of_block h1
 ·obtain ⟨cur,h1,_⟩:=bS h.deep;exact lt_of_block h1
 ·exact h.map.lt
theorem aC.same (h:aC w p st S) (e:∀ i∈S,w'.heap[i]?=w.heap[i]?):aC w' p st S:=by obtain ⟨lb,cap,db,iJ,mb,ds,D,hc,rfl⟩:=h;refine ⟨lb,cap,db,iJ,mb,ds,D,⟨(e p aH).trans hc.box,bT hc.row (e lb aH),bT hc.deep (e db aH),hc.low,?_,hc.names,hc.apart⟩,rfl⟩;obtain ⟨es,clock,hb,r⟩:=hc.map;exact ⟨es,clock,(e mb aH).trans hb,r⟩
theorem aC.lt (h:aC w p st S):∀ i∈S,i<w.heap.size:=by obtain ⟨lb,cap,db,iJ,mb,ds,D,hc,rfl⟩:=h;exact hc.lt
theorem aC.later (h:aC w p st S) (hb:Below w.heap.size w w'):aC w' p st S:=h.same fun i hi=>hb.block i (h.lt i hi)
theorem flat6 (i j:Nat) (hj:j<6):∀ (l:List af.Term) (h:i<l.length),(l.flatMap fk)[i*6+j]?=(fk l[i])[j]?:=by
 intro l
 induction l generalizing i with
 | nil=>intro h;simp at h
 | cons x l ih =>
  intro h
  rw [tB]
  cases i with
  | zero=>rw [Nat.zero_mul,bF,MK (by simpa [fk] using hj)];rfl
  | succ i =>
   rw [lg VQ];have:(i+1)*6+j - (fk x).length=i*6+j:=VQ;rw [this,ih i DN];rfl
theorem VX {j:Nat} (hi:1≤i) (hl:i≤st.l.length) (hj:j<6):(DT st)[i*6+j]?=(fk (st.l.getD (i - 1) af.uz))[j]?:=by
 obtain ⟨k,rfl⟩:∃ k,i=k+1:=⟨i - 1,ax⟩
 unfold DT;rw [lg VQ];have:(k+1)*6+j - (fk af.uz).length=k*6+j:=VQ;rw [this,flat6 k j hj st.l ax];simp [ux,lz (show k<st.l.length by omega)]
def gW (w:World) (S:List Nat) (p:Nat) (st:af.Store) (w':World):Prop:=∃ S',aC w' p st S'∧(∀ i∈S',i∈S∨w.heap.size≤i)∧az S w w'
structure SF (S:List Nat) (w0 W:World) (p:Nat) (st:af.Store) (L:List (Nat×Obj)):Prop where
 store:∃ S',aC W p st S'∧(∀ i∈S',i∈S∨w0.heap.size≤i)∧∀ x∈L,x.1∉S'
 ok:st.Ok
 jh:az S w0 W
 blk:∀ x∈L,W.heap[x.1]?=some x.2∧(x.1∈S∨w0.heap.size≤x.1)
 apart:(L.map (·.1)).Nodup
section
variable {S:List Nat} {w0 W w':World} {p:Nat} {st st':af.Store} {L L':List (Nat×Obj)}
theorem SF.start (h:aC W p st S) (hok:st.Ok):SF S W W p st []:=⟨⟨S,h,fun _ hi=>.inl hi,fun _ hx=>absurd hx aH⟩,hok,az.refl _ _,fun _ hx=>absurd hx aH,aH⟩
theorem SF.to (h:SF S w0 W p st L):gW w0 S p st W:=by obtain ⟨S',h1,h2,_⟩:=h.store;exact ⟨S',h1,h2,h.jh⟩
theorem SF.later (h:SF S w0 W p st L) (hb:Below W.heap.size W w'):SF S w0 w' p st L:=by obtain ⟨S',h1,h2,h3⟩:=h.store;exact ⟨⟨S',h1.later hb,h2,h3⟩,h.ok,h.jh.trans (az.below (S:=[]) hb) (fun j e=>absurd e aH),fun x hx=>⟨(hb.block _ (lt_of_block (h.blk x hx).1)).trans (h.blk x hx).1,(h.blk x hx).2⟩,h.apart⟩
theorem SF.sub (h:SF S w0 W p st L) (hs:L'.Sublist L):SF S w0 W p st L':=by obtain ⟨S',h1,h2,h3⟩:=h.store;exact ⟨⟨S',h1,h2,fun x hx=>h3 x (hs.subset hx)⟩,h.ok,h.jh,fun x hx=>h.blk x (hs.subset hx),(hs.map _).nodup h.apart⟩
theorem SF.perm (h:SF S w0 W p st L) (hs:L.Perm L'):SF S w0 W p st L':=by obtain ⟨S',h1,h2,h3⟩:=h.store;exact ⟨⟨S',h1,h2,fun x hx=>h3 x (hs.mem_iff.2 hx)⟩,h.ok,h.jh,fun x hx=>h.blk x (hs.mem_iff.2 hx),(hs.map _).nodup_iff.1 h.apart⟩
theorem SF.alloc (h:SF S w0 W p st L) (o:Obj):SF S w0 (W.alloc o) p st ((W.heap.size,o)::L):=by
 have hk:=h.later ((Below.refl _ W).alloc (cC _) o);obtain ⟨S',h1,h2,h3⟩:=h.store;refine ⟨⟨S',h1.later ((Below.refl _ W).alloc (cC _) o),h2,fun x hx=>?_⟩,h.ok,hk.jh,fun x hx=>?_,?_⟩
 ·rcases List.mem_cons.1 hx with rfl|hx
  ·exact fun hi=>by have:=h1.lt _ hi;simp only at this;omega
  ·exact h3 x hx
 ·rcases List.mem_cons.1 hx with rfl|hx
  ·exact ⟨heap_alloc_new W o,.inr h.jh.size⟩
  ·exact hk.blk x hx
 ·rw [jQ,uM]
  refine ⟨fun hi=>?_,h.apart⟩
  obtain ⟨x,hx,e⟩:=List.mem_map.1 hi
  have:=lt_of_block (h.blk x hx).1
  simp only at e
  omega
theorem SF.set (h:SF S w0 W p st ((k,.cells cs T (0,0))::L)) (i:Nat) (v:Value):SF S w0 (W.setCell ⟨k,i,none⟩ v) p st ((k,.cells (cs.setIfInBounds i v) T (0,0))::L):=by
 obtain ⟨S',h1,h2,h3⟩:=h.store;have hk:=h.blk _ (dN ..);have hne:∀ j,j≠k→(W.setCell ⟨k,i,none⟩ v).heap[j]?=W.heap[j]?:=fun j hj=>Below.heap_setCell _ _ _ _ hj;have hkS:k∉S':=h3 _ (dN ..);have ha:=h.apart;rw [jQ,uM] at ha;refine ⟨⟨S',h1.same fun j hj=>hne j (fun e=>hkS (e▸hj)),h2,fun x hx=>?_⟩,h.ok,h.jh.trans (az.setCell (S:=[k]) (w:=W) (a:=⟨k,i,none⟩) aH v) (fun j e=>by rw [rZ] at e;rw [e];exact hk.2),fun x hx=>?_,?_⟩
 ·rcases List.mem_cons.1 hx with rfl|hx
  ·exact hkS
  ·exact h3 x (xY _ hx)
 ·rcases List.mem_cons.1 hx with rfl|hx
  ·refine ⟨?_,hk.2⟩
   have:=hk.1
   simp only at this
   exact PG
  ·have hxk:x.1≠k:=fun e=>ha.1 (by show k∈_;rw [←e];exact mG (f:=(·.1)) hx);exact ⟨(hne _ hxk).trans (h.blk x (xY _ hx)).1,(h.blk x (xY _ hx)).2⟩
 ·rw [jQ,uM];exact ha
theorem SF.turn {S1:List Nat} (h:SF S w0 W p st L) (hok:st'.Ok) (hS1:∀ i∈S1,(i∈S∨w0.heap.size≤i)) (hL:∀ x∈L,x.1∉S1) (ht:gW W S1 p st' w'):SF S w0 w' p st' L:=by
 obtain ⟨S2,h1,h2,h3⟩:=ht;refine ⟨⟨S2,h1,fun i hi=>?_,fun x hx hi=>?_⟩,hok,h.jh.trans h3 hS1,fun x hx=>⟨(h3.block _ (lt_of_block (h.blk x hx).1) (hL x hx)).trans (h.blk x hx).1,(h.blk x hx).2⟩,h.apart⟩
 ·rcases h2 i hi with e|e
  ·exact hS1 i e
  ·exact .inr (Fc h.jh.size e)
 ·rcases h2 _ hi with e|e
  ·exact hL x hx e
  ·have:=lt_of_block (h.blk x hx).1;omega
theorem SF.call (h:SF S w0 W p st L) (hok:st'.Ok) (hc:∀ S1,aC W p st S1→Calls P f args W fun e w'=>e=E∧gW W S1 p st' w') :
 Calls P f args W fun e w'=>e=E∧SF S w0 w' p st' L:=by
 obtain ⟨S1,h1,h2,h3⟩:=h.store
 refine (hc S1 h1).mono ?_
 rintro e w' ⟨rfl,ht⟩
 exact ⟨rfl,h.turn hok h2 h3 ht⟩
theorem SF.get (h:SF S w0 W p st L) (i:Nat) (hi:L[i]?=some (k,o)):W.heap[k]?=some o:=(h.blk (k,o) (IQ hi)).1
theorem SF.mem (h:SF S w0 W p st L):Mem W L W:=⟨Below.refl _ _,fun x hx=>(h.blk x hx).1⟩
end
structure aW where
 holds:List Nat→World→Prop
 same:∀ {S w w'},holds S w→(∀ i∈S,w'.heap[i]?=w.heap[i]?)→holds S w'
 lt:∀ {S w},holds S w→∀ i∈S,i<w.heap.size
abbrev gG (Z:List (aW×List Nat)):List Nat:=Z.flatMap (·.2)
structure Sep (W:World) (R:List aW) (L:List (Nat×Obj)) (Z:List (aW×List Nat)):Prop where
 rs:Z.map (·.1)=R
 res:∀ z∈Z,z.1.holds z.2 W
 blk:∀ x∈L,W.heap[x.1]?=some x.2
 apart:(gG Z++L.map (·.1)).Nodup
structure NF (S:List Nat) (w0 W:World) (R:List aW) (L:List (Nat×Obj)):Prop where
 sep:∃ Z,Sep W R L Z∧(∀ i∈gG Z,i∈S∨w0.heap.size≤i)
 own:∀ x∈L,x.1∈S∨w0.heap.size≤x.1
 jh:az S w0 W
section
variable {S S':List Nat} {w0 W w':World} {R R' A A':List aW} {L L':List (Nat×Obj)} {Z:List (aW×List Nat)}
theorem Sep.lt (h:Sep W R L Z):∀ i∈gG Z,i<W.heap.size:=fun i hi=>by obtain ⟨z,hz,hi⟩:=List.mem_flatMap.1 hi;exact z.1.lt (h.res z hz) i hi
theorem Sep.ltL (h:Sep W R L Z):∀ x∈L,x.1<W.heap.size:=fun x hx=>lt_of_block (h.blk x hx)
theorem Sep.same (h:Sep W R L Z) (hZ:∀ i∈gG Z,w'.heap[i]?=W.heap[i]?) (hL:∀ x∈L,w'.heap[x.1]?=W.heap[x.1]?):Sep w' R L Z :=
 ⟨h.rs,fun z hz=>z.1.same (h.res z hz) fun i hi=>hZ i (List.mem_flatMap.2 ⟨z,hz,hi⟩),fun x hx=>(hL x hx).trans (h.blk x hx),h.apart⟩
theorem Sep.later (h:Sep W R L Z) (hb:Below W.heap.size W w'):Sep w' R L Z:=h.same (fun i hi=>hb.block i (h.lt i hi)) (fun x hx=>hb.block _ (h.ltL x hx))
theorem Sep.ne {x:Nat×Obj} (h:Sep W R L Z) (hi:i∈gG Z) (hx:x∈L):i≠x.1:=fun e=>(List.nodup_append.1 h.apart).2.2 i hi x.1 (mG (f:=(·.1)) hx) e
theorem NF.later (h:NF S w0 W R L) (hb:Below W.heap.size W w'):NF S w0 w' R L:=by obtain ⟨Z,hz,hS⟩:=h.sep;exact ⟨⟨Z,hz.later hb,hS⟩,h.own,h.jh.trans (az.below (S:=[]) hb) (fun j e=>absurd e aH)⟩
theorem NF.get (h:NF S w0 W R L) (i:Nat) (hi:L[i]?=some (k,o)):W.heap[k]?=some o:=by obtain ⟨Z,hz,_⟩:=h.sep;exact hz.blk (k,o) (IQ hi)
theorem NF.mem (h:NF S w0 W R L):Mem W L W:=⟨Below.refl _ _,by obtain ⟨Z,hz,_⟩:=h.sep;exact hz.blk⟩
theorem NF.iV (h:NF S w0 W R L):∀ z:Later W,bZ z.world L:=h.mem.ei
theorem NF.sub (h:NF S w0 W R L) (hs:L'.Sublist L):NF S w0 W R L':=by obtain ⟨Z,hz,hS⟩:=h.sep;exact ⟨⟨Z,⟨hz.rs,hz.res,fun x hx=>hz.blk x (hs.subset hx),((hs.map _).append_left _).nodup hz.apart⟩,hS⟩,fun x hx=>h.own x (hs.subset hx),h.jh⟩
theorem NF.perm (h:NF S w0 W R L) (hs:L.Perm L'):NF S w0 W R L':=by obtain ⟨Z,hz,hS⟩:=h.sep;exact ⟨⟨Z,⟨hz.rs,hz.res,fun x hx=>hz.blk x (hs.mem_iff.2 hx),((hs.map _).append_left _).nodup_iff.1 hz.apart⟩,hS⟩,fun x hx=>h.own x (hs.mem_iff.2 hx),h.jh⟩
theorem NF.alloc (h:NF S w0 W R L) (o:Obj):NF S w0 (W.alloc o) R ((W.heap.size,o)::L):=by
 have hb:=(Below.refl _ W).alloc (cC _) o;obtain ⟨Z,hz,hS⟩:=h.sep;have hz':=hz.later hb;refine ⟨⟨Z,⟨hz'.rs,hz'.res,fun x hx=>?_,?_⟩,hS⟩,fun x hx=>?_,(h.later hb).jh⟩
 ·rcases List.mem_cons.1 hx with rfl|hx
  ·exact heap_alloc_new W o
  ·exact hz'.blk x hx
 ·rw [jQ];refine (tE (l₁:=gG Z)).nodup_iff.2 (List.nodup_cons.2 ⟨fun hi=>?_,hz.apart⟩);rcases List.mem_append.1 hi with hi|hi
  ·exact absurd (hz.lt _ hi) (Nat.lt_irrefl _)
  ·obtain ⟨x,hx,e⟩:=List.mem_map.1 hi
   have:=hz.ltL x hx
   simp only at e;omega
 ·rcases List.mem_cons.1 hx with rfl|hx
  ·exact .inr h.jh.size
  ·exact h.own x hx
theorem NF.ai {C:List (Nat×Obj)} (h:NF S w0 W R (B++(k,.cells cs T (0,0))::C)) (i:Nat) (v:Value):NF S w0 (W.setCell ⟨k,i,none⟩ v) R (B++(k,.cells (cs.setIfInBounds i v) T (0,0))::C):=by
 obtain ⟨Z,hz,hS⟩:=h.sep;have hne:∀ j,j≠k→(W.setCell ⟨k,i,none⟩ v).heap[j]?=W.heap[j]?:=fun j hj=>Below.heap_setCell _ _ _ _ hj;have hin:(k,Obj.cells cs T (0,0))∈B++(k,.cells cs T (0,0))::C:=aH;have hap:=hz.apart;have hkb:=hz.blk _ hin;simp only at hkb;refine ⟨⟨Z,⟨hz.rs,fun z hz2=>z.1.same (hz.res z hz2) fun j hj=>hne j (show j≠k from hz.ne (x:=(k,Obj.cells cs T (0,0))) (List.mem_flatMap.2 ⟨z,hz2,hj⟩) hin),fun x hx=>?_,?_⟩,hS⟩,fun x hx=>?_,h.jh.trans (az.setCell (S:=[k]) (w:=W) (a:=⟨k,i,none⟩) aH v) (fun j e=>by rw [rZ] at e;rw [e];exact h.own _ hin)⟩
 ·have hd:(B++(k,Obj.cells cs T (0,0))::C).map (·.1)=B.map (·.1)++k::C.map (·.1):=aH;have hn:=(List.nodup_append.1 hap).2.1;rw [hd] at hn;have hn2:=(List.nodup_cons.1 ((tE).nodup_iff.1 hn)).1;rcases List.mem_append.1 hx with hx|hx
  ·have:x.1≠k:=fun e=>hn2 (DL _ (e▸mG (f:=(·.1)) hx));exact (hne _ this).trans (hz.blk x (DL _ hx))
  ·rcases List.mem_cons.1 hx with rfl|hx
   ·simp only [World.setCell,Array.getElem?_modify,if_pos,hkb];simp
   ·have:x.1≠k:=fun e=>hn2 (MJ _ (e▸mG (f:=(·.1)) hx));exact (hne _ this).trans (hz.blk x (MJ _ (xY _ hx)))
 ·simpa using hap
 ·rcases List.mem_append.1 hx with hx|hx
  ·exact h.own x (DL _ hx)
  ·rcases List.mem_cons.1 hx with rfl|hx
   ·exact h.own (k,Obj.cells cs T (0,0)) hin
   ·exact h.own x (MJ _ (xY _ hx))
theorem NF.set (h:NF S w0 W R ((k,.cells cs T (0,0))::L)) (i:Nat) (v:Value):NF S w0 (W.setCell ⟨k,i,none⟩ v) R ((k,.cells (cs.setIfInBounds i v) T (0,0))::L):=h.ai (B:=[]) i v
theorem Qx {α β:Type} {f:α→β}:∀ {l:List β} {m:List β},l.Perm m→∀ Z:List α,Z.map f=l→∃ Z',Z'.map f=m∧Z.Perm Z':=by
 intro l m h
 induction h with
 | nil=>intro Z hZ;exact ⟨[],rfl,by rw [List.map_eq_nil_iff.1 hZ]⟩
 | cons x _ ih =>
  intro Z hZ;obtain ⟨a,Z1,rfl,rfl,h2⟩:=List.map_eq_cons_iff.1 hZ;obtain ⟨Z',h3,h4⟩:=ih Z1 h2;exact ⟨a::Z',by simp [h3],h4.cons a⟩
 | swap x y l =>
  intro Z hZ;obtain ⟨a,Z1,rfl,rfl,h2⟩:=List.map_eq_cons_iff.1 hZ;obtain ⟨b,Z2,rfl,rfl,h3⟩:=List.map_eq_cons_iff.1 h2;exact ⟨b::a::Z2,by simp [h3],List.Perm.swap _ _ _⟩
 | trans _ _ ih1 ih2 =>
  intro Z hZ;obtain ⟨Z1,h1,p1⟩:=ih1 Z hZ;obtain ⟨Z2,h2,p2⟩:=ih2 Z1 h1;exact ⟨Z2,h2,p1.trans p2⟩
theorem Sep.perm (h:Sep W R L Z) (p:R.Perm R'):∃ Z',Sep W R' L Z'∧(gG Z).Perm (gG Z'):=by obtain ⟨Z',h1,h2⟩:=Qx p Z h.rs;have hp:(gG Z).Perm (gG Z'):=h2.flatMap_right _;exact ⟨Z',⟨h1,fun z hz=>h.res z (h2.mem_iff.2 hz),h.blk,(hp.append_right _).nodup_iff.1 h.apart⟩,hp⟩
theorem NF.bP (h:NF S w0 W R L) (p:R.Perm R'):NF S w0 W R' L:=by obtain ⟨Z,hz,hS⟩:=h.sep;obtain ⟨Z',hz',hp⟩:=hz.perm p;exact ⟨⟨Z',hz',fun i hi=>hS i (hp.mem_iff.2 hi)⟩,h.own,h.jh⟩
theorem mI {α:Type}:∀ (l:List α) (i:Nat) (hi:i<l.length),(l[i]::l.eraseIdx i).Perm l
 | [],_,h=>absurd h aH
 | a::l,0,_=>List.Perm.refl _
 | a::l,i+1,h=>((List.Perm.swap _ _ _).trans ((mI l i DN).cons a))
theorem NF.lA (h:NF S w0 W (A++R) L):NF S w0 W R L:=by
 obtain ⟨Z,hz,hS⟩:=h.sep;obtain ⟨Z1,Z2,rfl,h1,h2⟩:=List.map_eq_append_iff.1 hz.rs;have hsub:(gG Z2).Sublist (gG (Z1++Z2)):=by simp only [gG,jO];exact List.sublist_append_right _ _
 exact ⟨⟨Z2,⟨h2,fun z hz2=>hz.res z (MJ _ hz2),hz.blk,(hsub.append_right _).nodup hz.apart⟩,fun i hi=>hS i (hsub.subset hi)⟩,h.own,h.jh⟩
theorem NF.split (h:NF S w0 W (A++R) L):∃ S1,NF S1 W W A []∧∀ w' A' L',NF S1 W w' A' L'→NF S w0 w' (A'++R) (L'++L):=by
 obtain ⟨Z,hz,hS⟩:=h.sep;obtain ⟨Z1,Z2,rfl,h1,h2⟩:=List.map_eq_append_iff.1 hz.rs;have hfp:gG (Z1++Z2)=gG Z1++gG Z2:=by simp only [gG,jO]
 have hap:=hz.apart;rw [hfp,E6] at hap;obtain ⟨n1,n2,n3⟩:=List.nodup_append.1 hap;refine ⟨gG Z1,⟨⟨Z1,⟨h1,fun z hz1=>hz.res z (DL _ hz1),fun x hx=>absurd hx aH,by simpa using n1⟩,fun i hi=>.inl hi⟩,fun x hx=>absurd hx aH,az.refl _ _⟩,?_⟩;rintro w' A' L' ⟨⟨Z',hz',hS'⟩,hown',YY⟩;have VY:∀ i,i<W.heap.size→i∉gG Z1→w'.heap[i]?=W.heap[i]?:=YY.block;have hlt2:∀ i∈gG Z2,i<W.heap.size:=fun i hi=>hz.lt i c914;have YZ:∀ i∈gG Z2,i∉gG Z1:=fun i hi e=>n3 i e i (DL _ hi) rfl;have Y0:∀ x∈L,x.1∉gG Z1:=fun x hx e=>n3 x.1 e x.1 (MJ _ (mG (f:=(·.1)) hx)) rfl;have hin1:∀ i∈gG Z1,i∈S∨w0.heap.size≤i:=fun i hi=>hS i (by rw [hfp];exact DL _ hi);have up:∀ i,i∈gG Z1∨W.heap.size≤i→i∈S∨w0.heap.size≤i:=fun i hi=>by
  rcases hi with hi|hi
  ·exact hin1 i hi
  ·exact .inr (Fc h.jh.size hi)
 have hfp':gG (Z'++Z2)=gG Z'++gG Z2:=by simp only [gG,jO]
 refine ⟨⟨Z'++Z2,⟨by rw [dc,hz'.rs,h2],fun z hzz=>?_,fun x hx=>?_,?_⟩,fun i hi=>?_⟩,fun x hx=>?_,h.jh.trans YY hin1⟩
 ·rcases List.mem_append.1 hzz with hz1|hz2
  ·exact hz'.res z hz1
  ·exact z.1.same (hz.res z (MJ _ hz2)) fun i hi=>VY i (z.1.lt (hz.res z (MJ _ hz2)) i hi) (YZ i (List.mem_flatMap.2 ⟨z,hz2,hi⟩))
 ·rcases List.mem_append.1 hx with hx|hx
  ·exact hz'.blk x hx
  ·exact (VY _ (hz.ltL x hx) (Y0 x hx)).trans (hz.blk x hx)
 ·rw [hfp',dc];have hp:(gG Z'++gG Z2++(L'.map (·.1)++L.map (·.1))).Perm ((gG Z'++L'.map (·.1))++(gG Z2++L.map (·.1))):=by rw [E6,E6];exact a999
  refine hp.nodup_iff.2 (List.nodup_append.2 ⟨hz'.apart,n2,fun i hi j hj e=>?_⟩);subst e;have hlt:i<W.heap.size∧i∉gG Z1:=by
   rcases List.mem_append.1 hj with hj|hj
   ·exact ⟨hlt2 i hj,YZ i hj⟩
   ·obtain ⟨x,hx,rfl⟩:=List.mem_map.1 hj;exact ⟨hz.ltL x hx,Y0 x hx⟩
  have hor:i∈gG Z1∨W.heap.size≤i:=by
   rcases List.mem_append.1 hi with hi|hi
   ·exact hS' i hi
   ·obtain ⟨x,hx,rfl⟩:=List.mem_map.1 hi;exact hown' x hx
  rcases hor with e|e
  ·exact hlt.2 e
  ·omega
 ·rw [hfp'] at hi;rcases List.mem_append.1 hi with hi|hi
  ·exact up i (hS' i hi)
  ·exact hS i c914
 ·rcases List.mem_append.1 hx with hx|hx
  ·exact up _ (hown' x hx)
  ·exact h.own x hx
theorem NF.call {ι:Type} {E:ι→Ending} {A':ι→List aW} {L':ι→List (Nat×Obj)} (h:NF S w0 W (A++R) L) (hc:∀ S1,NF S1 W W A []→Calls P f args W fun e w'=>∃ x,e=E x∧NF S1 W w' (A' x) (L' x)) :
 Calls P f args W fun e w'=>∃ x,e=E x∧NF S w0 w' (A' x++R) (L' x++L):=by
 obtain ⟨S1,h1,h2⟩:=h.split
 refine (hc S1 h1).mono ?_
 rintro e w' ⟨x,rfl,hn⟩
 exact ⟨x,rfl,h2 _ _ _ hn⟩
def comp (R1:List aW) (L1:List (Nat×Obj)):aW where
 holds S w:=∃ Z,Sep w R1 L1 Z∧S=gG Z++L1.map (·.1)
 same:=by rintro S w w' ⟨Z,hz,rfl⟩ hs;exact ⟨Z,hz.same (fun i hi=>hs i (DL _ hi)) (fun x hx=>hs _ (MJ _ (mG (f:=(·.1)) hx))),rfl⟩
 lt:=by
  rintro S w ⟨Z,hz,rfl⟩ i hi;rcases List.mem_append.1 hi with hi|hi
  ·exact hz.lt i hi
  ·obtain ⟨x,hx,rfl⟩:=List.mem_map.1 hi;exact hz.ltL x hx
def exR {ι:Type} (r:ι→aW):aW where
 holds S w:=∃ x,(r x).holds S w
 same:=by rintro S w w' ⟨x,hx⟩ hs;exact ⟨x,(r x).same hx hs⟩
 lt:=by rintro S w ⟨x,hx⟩;exact (r x).lt hx
def wj (q:Prop) (r:aW):aW where
 holds S w:=q∧r.holds S w
 same:=fun h hs=>⟨h.1,r.same h.2 hs⟩
 lt:=fun h=>r.lt h.2
theorem Sep.MO {R1:List aW} (h:Sep W (comp R1 L1::R) L Z):∃ Z',Sep W (R1++R) (L1++L) Z'∧(gG Z'++(L1++L).map (·.1)).Perm (gG Z++L.map (·.1)):=by
 obtain ⟨a,Z2,rfl,h1,h2⟩:=List.map_eq_cons_iff.1 h.rs;have ha:=h.res a (dN ..);rw [h1] at ha;obtain ⟨Z1,hz1,e⟩:=ha;have hp:(gG (Z1++Z2)++(L1++L).map (·.1)).Perm (gG (a::Z2)++L.map (·.1)):=by simp only [gG,jO,tB,dc,e,E6];exact a999
 refine ⟨Z1++Z2,⟨by rw [dc,hz1.rs,h2],fun z hz=>?_,fun x hx=>?_,hp.nodup_iff.2 h.apart⟩,hp⟩
 ·rcases List.mem_append.1 hz with hz|hz
  ·exact hz1.res z hz
  ·exact h.res z (xY _ hz)
 ·rcases List.mem_append.1 hx with hx|hx
  ·exact hz1.blk x hx
  ·exact h.blk x hx
theorem Sep.MP {R1:List aW} (h:Sep W (R1++R) (L1++L) Z):∃ Z',Sep W (comp R1 L1::R) L Z'∧(gG Z'++L.map (·.1)).Perm (gG Z++(L1++L).map (·.1)):=by
 obtain ⟨Z1,Z2,rfl,h1,h2⟩:=List.map_eq_append_iff.1 h.rs;have hp:(gG ((comp R1 L1,gG Z1++L1.map (·.1))::Z2)++L.map (·.1)).Perm (gG (Z1++Z2)++(L1++L).map (·.1)):=by simp only [gG,jO,tB,dc,E6];exact a999
 refine ⟨(comp R1 L1,gG Z1++L1.map (·.1))::Z2,⟨by simp [h2],fun z hz=>?_,fun x hx=>h.blk x (MJ _ hx),hp.nodup_iff.2 h.apart⟩,hp⟩;rcases List.mem_cons.1 hz with rfl|hz
 ·refine ⟨Z1,⟨h1,fun z hz=>h.res z (DL _ hz),fun x hx=>h.blk x (DL _ hx),?_⟩,rfl⟩;have hap:=h.apart;simp only [gG,jO,dc] at hap;exact (List.Sublist.append (List.sublist_append_left _ _) (List.sublist_append_left _ _)).nodup hap
 ·exact h.res z (MJ _ hz)
theorem NF.op {R1:List aW} (h:NF S w0 W (comp R1 L1::R) L):NF S w0 W (R1++R) (L1++L):=by
 obtain ⟨Z,hz,hS⟩:=h.sep;obtain ⟨Z',hz',hp⟩:=hz.MO;have key:∀ i∈gG Z'++(L1++L).map (·.1),i∈S∨w0.heap.size≤i:=fun i hi=>by exact ZR
 exact ⟨⟨Z',hz',fun i hi=>key i (DL _ hi)⟩,fun x hx=>key _ (MJ _ (mG (f:=(·.1)) hx)),h.jh⟩
theorem NF.shut {R1:List aW} (h:NF S w0 W (R1++R) (L1++L)):NF S w0 W (comp R1 L1::R) L:=by
 obtain ⟨Z,hz,hS⟩:=h.sep;obtain ⟨Z',hz',hp⟩:=hz.MP;have key:∀ i∈gG Z'++L.map (·.1),i∈S∨w0.heap.size≤i:=fun i hi=>by exact ZR
 exact ⟨⟨Z',hz',fun i hi=>key i (DL _ hi)⟩,fun x hx=>h.own x (MJ _ hx),h.jh⟩
theorem Sep.Qy {r r':aW} (h:Sep W (r::R) L Z) (hr:∀ f,r.holds f W→r'.holds f W):∃ Z',Sep W (r'::R) L Z'∧gG Z'=gG Z:=by
 obtain ⟨a,Z2,rfl,h1,h2⟩:=List.map_eq_cons_iff.1 h.rs;refine ⟨(r',a.2)::Z2,⟨by simp [h2],fun z hz=>?_,h.blk,by simpa [gG] using h.apart⟩,by simp [gG]⟩;rcases List.mem_cons.1 hz with rfl|hz
 ·have:=h.res a (dN ..)
  rw [h1] at this
  exact hr _ this
 ·exact h.res z (xY _ hz)
theorem NF.imp {r r':aW} (h:NF S w0 W (r::R) L) (hr:∀ f,r.holds f W→r'.holds f W):NF S w0 W (r'::R) L:=by obtain ⟨Z,hz,hS⟩:=h.sep;obtain ⟨Z',hz',e⟩:=hz.Qy hr;exact ⟨⟨Z',hz',by rw [e];exact hS⟩,h.own,h.jh⟩
theorem NF.exO {ι:Type} {r:ι→aW} (h:NF S w0 W (exR r::R) L):∃ x,NF S w0 W (r x::R) L:=by
 obtain ⟨Z,hz,hS⟩:=h.sep;obtain ⟨a,Z2,rfl,h1,h2⟩:=List.map_eq_cons_iff.1 hz.rs;have ha:=hz.res a (dN ..);rw [h1] at ha;obtain ⟨x,hx⟩:=ha;refine ⟨x,⟨(r x,a.2)::Z2,⟨by simp [h2],fun z hzz=>?_,hz.blk,by simpa [gG] using hz.apart⟩,by simpa [gG] using hS⟩,h.own,h.jh⟩;rcases List.mem_cons.1 hzz with rfl|hzz
 ·exact hx
 ·exact hz.res z (xY _ hzz)
theorem NF.Vr {ι:Type} {r:ι→aW} (x:ι) (h:NF S w0 W (r x::R) L):NF S w0 W (exR r::R) L:=h.imp fun _ hf=>⟨x,hf⟩
theorem NF.IX {q:Prop} {r:aW} (h:NF S w0 W (wj q r::R) L):q∧NF S w0 W (r::R) L:=by refine ⟨?_,h.imp fun _ hf=>hf.2⟩;obtain ⟨Z,hz,hS⟩:=h.sep;obtain ⟨a,Z2,rfl,h1,h2⟩:=List.map_eq_cons_iff.1 hz.rs;have ha:=hz.res a (dN ..);rw [h1] at ha;exact ha.1
theorem NF.Bu {q:Prop} {r:aW} (hq:q) (h:NF S w0 W (r::R) L):NF S w0 W (wj q r::R) L:=h.imp fun _ hf=>⟨hq,hf⟩
theorem NF.tell {r:aW} (h:NF S w0 W (r::R) L):∃ f,r.holds f W∧∀ x∈L,x.1∉f:=by obtain ⟨Z,hz,hS⟩:=h.sep;obtain ⟨a,Z2,rfl,h1,h2⟩:=List.map_eq_cons_iff.1 hz.rs;have ha:=hz.res a (dN ..);rw [h1] at ha;exact ⟨a.2,ha,fun x hx e=>hz.ne (List.mem_flatMap.2 ⟨a,dN ..,e⟩) hx rfl⟩
theorem NF.give {r:aW} {F:List Nat} (h:NF S w0 W R L) (hb:Below W.heap.size W w') (hr:r.holds F w') (hn:F.Nodup) (hF:∀ i∈F,W.heap.size≤i):NF S w0 w' (r::R) L:=by
 have h':=h.later hb;obtain ⟨Z,hz,hS⟩:=h.sep;have hz':=hz.later hb;refine ⟨⟨(r,F)::Z,⟨by simp [hz'.rs],fun z hzz=>?_,hz'.blk,?_⟩,fun i hi=>?_⟩,h.own,h'.jh⟩
 ·rcases List.mem_cons.1 hzz with rfl|hzz
  ·exact hr
  ·exact hz'.res z hzz
 ·simp only [gG,tB,E6]
  refine List.nodup_append.2 ⟨hn,hz.apart,fun i hi j hj e=>?_⟩
  subst e
  have:=hF i hi
  rcases List.mem_append.1 hj with hj|hj
  ·have:=hz.lt i hj;omega
  ·obtain ⟨x,hx,rfl⟩:=List.mem_map.1 hj
   have:=hz.ltL x hx;omega
 ·simp only [gG,tB] at hi;rcases List.mem_append.1 hi with hi|hi
  ·exact .inr (Fc h.jh.size (hF i hi))
  ·exact hS i hi
-- the store
theorem aC.nodup (h:aC w p st S):S.Nodup:=by obtain ⟨_,_,_,_,_,_,_,hc,rfl⟩:=h;exact hc.apart
def ah (p:Nat) (st:af.Store):aW where
 holds S w:=aC w p st S∧st.Ok
 same:=fun h hs=>⟨h.1.same hs,h.2⟩
 lt:=fun h=>h.1.lt
theorem NF.sf (h:NF S w0 W (ah p st::R) L):∃ S1,SF S1 W W p st []∧∀ w' st' L',SF S1 W w' p st' L'→NF S w0 w' (ah p st'::R) (L'++L):=by obtain ⟨S1,h1,h2⟩:=NF.split (A:=[ah p st]) h;obtain ⟨⟨Z,hz,hS⟩,_,Qz⟩:=h1;obtain ⟨a,Z2,rfl,e1,e2⟩:=List.map_eq_cons_iff.1 hz.rs;obtain rfl:=List.map_eq_nil_iff.1 e2;have ha:=hz.res a (dN ..);rw [e1] at ha;obtain ⟨k1,k3⟩:=ha;refine ⟨S1,⟨⟨a.2,k1,fun i hi=>hS i IU,fun x hx=>absurd hx aH⟩,k3,Qz,fun x hx=>absurd hx aH,aH⟩,fun w' st' L' K7=>h2 w' [ah p st'] L' ?_⟩;exact a958
theorem NF.splitL (h:NF S w0 W (A++R) (B++L)):∃ S1,NF S1 W W A B∧∀ w' A' B',NF S1 W w' A' B'→NF S w0 w' (A'++R) (B'++L):=by
 obtain ⟨S1,h1,h2⟩:=NF.split (A:=[comp A B]) h.shut
 refine ⟨S1,by simpa using h1.op,fun w' A' B' hn=>?_⟩
 have:=h2 w' [comp A' B'] [] (NF.shut (R:=[]) (L:=[]) (by simpa using hn))
 exact NF.op this
theorem NF.sfL (h:NF S w0 W (ah p st::R) (B++L)):∃ S1,SF S1 W W p st B∧∀ w' st' B',SF S1 W w' p st' B'→NF S w0 w' (ah p st'::R) (B'++L):=by obtain ⟨S1,h1,h2⟩:=NF.splitL (A:=[ah p st]) h;obtain ⟨⟨Z,hz,hS⟩,hown,Qz⟩:=h1;obtain ⟨a,Z2,rfl,e1,e2⟩:=List.map_eq_cons_iff.1 hz.rs;obtain rfl:=List.map_eq_nil_iff.1 e2;have ha:=hz.res a (dN ..);rw [e1] at ha;obtain ⟨k1,k3⟩:=ha;refine ⟨S1,⟨⟨a.2,k1,fun i hi=>hS i IU,fun x hx e=>hz.ne (List.mem_flatMap.2 ⟨a,dN ..,e⟩) hx rfl⟩,k3,Qz,fun x hx=>⟨hz.blk x hx,hown x hx⟩,(List.nodup_append.1 hz.apart).2.1⟩,fun w' st' B' K7=>h2 w' [ah p st'] B' ?_⟩;exact a958
theorem NF.callB (h:NF S w0 W (ah p st::R) (B++L)) (hc:∀ S1,SF S1 W W p st B→Calls P f args W fun e w'=>e=E∧SF S1 W w' p st' B) :
 Calls P f args W fun e w'=>e=E∧NF S w0 w' (ah p st'::R) (B++L):=by
 obtain ⟨S1,h1,h2⟩:=h.sfL
 refine (hc S1 h1).mono ?_
 rintro e w' ⟨rfl,hn⟩
 exact ⟨rfl,h2 _ _ _ hn⟩
theorem NF.zi {Lc:List (Nat×Obj)} (h:NF S w0 W R L) (hs:∀ q∈Lc,q∈L):Mem W Lc W:=⟨Below.refl _ _,fun q hq=>by obtain ⟨Z,hz,_⟩:=h.sep;exact hz.blk q (hs q hq)⟩
theorem NF.gL (h:NF S w0 W (ah p st::R) L) (hc:∀ S1,SF S1 W W p st []→Calls P f args W fun e w'=>e=E∧SF S1 W w' p st' []) :
 Calls P f args W fun e w'=>e=E∧NF S w0 w' (ah p st'::R) L:=by
 obtain ⟨S1,h1,h2⟩:=h.sf
 refine (hc S1 h1).mono ?_
 rintro e w' ⟨rfl,hn⟩
 exact ⟨rfl,h2 _ _ _ hn⟩
theorem NF.okS (h:NF S w0 W (ah p st::R) L):st.Ok:=by obtain ⟨f,hf,_⟩:=h.tell;exact hf.2
end
open Go.RowKit
def upL {α:Type}:Nat→List α→List α
 | 0,R=>R
 | _+1,[]=>[]
 | n+1,a::r=>match upL n r with
  | []=>[a]
  | b::s=>b::a::s
theorem zj {α:Type}:∀ (n:Nat) (R:List α),R.Perm (upL n R)
 | 0,R=>List.Perm.refl R
 | _+1,[]=>List.Perm.refl _
 | n+1,a::r=>by
  have h:=zj n r;unfold upL;split
  ·rename_i e;rw [e] at h;exact h.cons a
  ·rename_i b s e;rw [e] at h;exact (h.cons a).trans (List.Perm.swap _ _ _)
theorem NF.up {R R':List aW} (h:NF S w0 W R L) (n:Nat) (e:upL n R=R':=by simp only [upL];first|done|rfl):NF S w0 W R' L:=e▸h.bP (zj n R)
theorem NF.PN {R:List aW} {L':List (Nat×Obj)} (h:NF S w0 W R L) (n:Nat) (e:upL n L=L':=by simp only [upL];first|done|rfl):NF S w0 W R L':=e▸h.perm (zj n L)
end Go.Proofs.N0
namespace Go
open Go.RowKit
variable {i id n k:Nat} {a A:Act} {w x:World} {o o':Oper} {u:Value} {F:Nat→Option Value} {Wr Al:List Nat} {Lc:List (Nat×Obj)}
theorem fo {md:Region.Mode} {ops:Array Oper} {listed:Array Bool} (h:i∈Region.ready md ops listed):i<ops.size∧listed.getD i true=false∧∀ o,ops[i]?=some o→(o.after.all fun e=>!Region.binds md e||listed.getD e.on false)=true:=by
 unfold Region.ready at h
 rw [List.mem_filter] at h
 obtain ⟨h1,h2⟩:=h
 rw [gi] at h2
 refine ⟨List.mem_range.1 h1,by simpa using h2.1,fun o ho=>?_⟩
 have:=h2.2
 rw [ho] at this
 simpa using this
def dn (ops:Array Oper) (listed:Array Bool):List Nat:=(List.range ops.size).filter fun i=>!listed.getD i true
theorem mH {md:Region.Mode} {ops:Array Oper} {listed:Array Bool} (hs:listed.size=ops.size) (vY:∀ (i:Nat) (o:Oper),ops[i]?=some o→∀ e∈o.after,Region.binds md e=true→e.on<i) (h:Region.ready md ops listed=[]):∀ i,i<ops.size→listed.getD i true=true:=by
 intro i
 induction i using Nat.strongRecOn with
 | _ i ih =>
  intro hi;apply Decidable.byContradiction;intro hn;have hn':listed.getD i true=false:=by simpa using hn
  have:i∈Region.ready md ops listed:=by
   unfold Region.ready;rw [List.mem_filter];refine ⟨List.mem_range.2 hi,?_⟩;rw [gi];refine ⟨by simpa using hn',?_⟩;have ho:ops[i]?=some ops[i]:=tC hi;rw [ho];simp only [Option.map_some,uy];rw [IP];intro j hj;by_cases hb:Region.binds md ops[i].after[j]=true
   ·have hlt:=vY i ops[i] ho ops[i].after[j] (Array.getElem_mem hj) hb
    have:=ih _ hlt ax
    have hgd:listed.getD ops[i].after[j].on false=listed.getD ops[i].after[j].on true:=by simp only [Array.getD,hs,show ops[i].after[j].on<ops.size by omega,dif_pos]
    rw [hgd,this];simp
   ·have:Region.binds md ops[i].after[j]=false:=Qq;rw [this];simp
  rw [h] at this;simp at this
theorem sI {P:Program} {ops:Array Oper} {Q:Exit→Act→World→Prop} (I:(Nat→Bool)→Act→World→Prop) (hm:P.follows .mixedOrders=true)
 (vY:∀ (i:Nat) (o:Oper),ops[i]?=some o→∀ e∈o.after,Region.binds .any e=true→e.on<i)
 (h0:∀ L,(∀ i,i<ops.size→L i=false)→I L a w.drew)
 (hstep:∀ (i:Nat) (o:Oper) (L:Nat→Bool) (a:Act) (w:World),ops[i]?=some o→L i=false→(o.after.all fun e=>!Region.binds .any e||L e.on)=true→I L a w→wpOp P ops Q i (I (fun j=>L j||j==i)) a w)
 (hend:∀ (L:Nat→Bool) (a:Act) (w:World),(∀ i,i<ops.size→L i=true)→I L a w→Q .normal a w):(Code.region id ops true).wp P Q a w:=by
 refine wp_region_any hm ?_
 have main:∀ (fuel:Nat) (listed:Array Bool) (a:Act) (w:World),listed.size=ops.size→(dn ops listed).length≤fuel→I (fun j=>listed.getD j false) a w→wpAny P .any ops Q fuel listed a w:=by exact a97
 refine main ops.size _ a _ aH ?_ (h0 _ fun i hi=>by simp [Array.getD,hi])
 unfold dn
 exact Fc (lG _ _) aH
open Go.RowKit Go.Proofs.N0
inductive zk where
 | val (f:(Nat→Value)→Value)
 | blk (mk:Nat→Value) (T:TypeId) (z:(Nat→Value)→Array Value) (ks:Nat) (c:(Nat→Value)→Array Value)
 | sto (ka:Nat)
 | res
 | wr
def aq (a:Act):Nat→List Oper→(Nat→Value)→Act
 | _,[],_=>a
 | k,o::r,v=>aq (a.put o.dst (v k)) (k+1) r v
def waits (o:Oper):List Nat:=(o.after.toList.filter fun e=>Region.binds .any e).map (·.on)
def zl (l:List Oper):List Nat:=l.filterMap (·.dst)
def kz (l:List Oper) (n:Nat):Bool :=
 decide (zl l).Nodup&&(zl l).all (fun s=>decide (s<n))&&(l.zipIdx.all fun x=>(x.1.after.all fun e=>!Region.binds .any e||decide (e.on<x.2)))
section
variable {P:Program} {l:List Oper} {S:List Nat} {w0:World} {Kd:List zk} {Pre:World→Prop} {Post:Nat→Value→List Nat→World→Prop} {Q:Exit→Act→World→Prop} {a0:Act}
def Known (Kd:List zk) (w0:World) (Post:Nat→Value→List Nat→World→Prop) (W:List Nat) (v:Nat→Value) (x:World):Prop :=
 ∀ j∈W,match Kd[j]? with
  | some (.val f)=>v j=f v
  | some (.blk mk T z ks c)=>∃ g,v j=mk g∧w0.heap.size≤g∧(ks∈W→x.heap[g]?=some (.cells (c v) T (0,0)))∧(Kd.length≤ks→x.heap[g]?=some (.cells (z v) T (0,0)))
  | some .wr=>∃ FP,Post j (v j) FP x
  | some .res=>∃ FP,Post j (v j) FP x
  | _=>True
def VZ (P:Program) (l:List Oper) (S:List Nat) (w0:World) (Kd:List zk) (Pre:World→Prop) (Post:Nat→Value→List Nat→World→Prop) (Q:Exit→Act→World→Prop) (a0:Act) (k:Nat) (o:Oper):zk→Prop
 | .val f=>(∀ v v':Nat→Value,(∀ j∈waits o,v j=v' j)→f v=f v') ∧
  ∀ v x,az S w0 x→Known Kd w0 Post (waits o) v x→(Region.wanted o (yielded l.toArray (aq a0 0 l v).tmps)=true∧o.wp P (aq a0 0 l v) x (fun a' y=>a'=(aq a0 0 l v).put o.dst (f v)∧Below x.heap.size x y) Q)∨(Region.wanted o (yielded l.toArray (aq a0 0 l v).tmps)=false∧f v=undef)
 | .blk mk T z ks _=>(ks<l.length→Kd[ks]?=some (.sto k))∧(∀ v v':Nat→Value,(∀ j∈waits o,v j=v' j)→z v=z v') ∧
  ∀ v x,az S w0 x→Known Kd w0 Post (waits o) v x→Region.wanted o (yielded l.toArray (aq a0 0 l v).tmps)=true∧o.wp P (aq a0 0 l v) x (fun a' y=>a'=(aq a0 0 l v).put o.dst (mk x.heap.size)∧y=x.alloc (.cells (z v) T)) Q
 | .sto ka=>ka∈waits o∧o.dst=none∧∃ mk T z c,Kd[ka]?=some (.blk mk T z k c)∧(∀ v v':Nat→Value,(∀ j∈waits o,v j=v' j)→c v=c v') ∧
  ∀ v x g,az S w0 x→Known Kd w0 Post (waits o) v x→v ka=mk g→w0.heap.size≤g→x.heap[g]?=some (.cells (z v) T (0,0)) →
   Region.wanted o (yielded l.toArray (aq a0 0 l v).tmps)=true∧o.wp P (aq a0 0 l v) x (fun a' y=>a'=aq a0 0 l v∧y.heap[g]?=some (.cells (c v) T (0,0))∧az [g] x y) Q
 | .res=>∀ v x,az S w0 x→Known Kd w0 Post (waits o) v x→Region.wanted o (yielded l.toArray (aq a0 0 l v).tmps)=true ∧
  o.wp P (aq a0 0 l v) x (fun a' y=>∃ u FP,a'=(aq a0 0 l v).put o.dst u∧Below x.heap.size x y∧Post k u FP y∧∀ i∈FP,x.heap.size≤i∧i<y.heap.size) Q
 | .wr=>(∀ j,Kd[j]?=some .wr→j=k) ∧
  ∀ v x,az S w0 x→Pre x→Known Kd w0 Post (waits o) v x→Region.wanted o (yielded l.toArray (aq a0 0 l v).tmps)=true∧o.wp P (aq a0 0 l v) x (fun a' y=>∃ u FP,a'=(aq a0 0 l v).put o.dst u∧az S x y∧Post k u FP y∧∀ i∈FP,(i∈S∨x.heap.size≤i)∧i<y.heap.size) Q
structure K9 (l:List Oper) (S:List Nat) (w0:World) (Kd:List zk) (Pre:World→Prop) (Post:Nat→Value→List Nat→World→Prop) (L:Nat→Bool) (v:Nat→Value) (G:Nat→Nat) (x:World):Prop where
 jh:az S w0 x
 vals:∀ k f,Kd[k]?=some (.val f)→L k=true→v k=f v
 blks:∀ k mk T z ks c,Kd[k]?=some (.blk mk T z ks c)→L k=true→v k=mk (G k)∧w0.heap.size≤G k∧G k<x.heap.size∧x.heap[G k]?=some (.cells (if L ks=true then c v else z v) T (0,0))
 apart:∀ k k' mk T z ks c mk' T' z' ks' c',Kd[k]?=some (.blk mk T z ks c)→Kd[k']?=some (.blk mk' T' z' ks' c')→L k=true→L k'=true→k≠k'→G k≠G k'
 post:∀ j,(Kd[j]?=some .wr∨Kd[j]?=some .res)→L j=true→∃ FP,Post j (v j) FP x∧(∀ i∈FP,i<x.heap.size)∧(Kd[j]?=some .res→∀ i∈FP,w0.heap.size≤i)∧∀ k mk T z ks c,Kd[k]?=some (.blk mk T z ks c)→L k=true→G k∉FP
 pre:∀ j,Kd[j]?=some .wr→L j=false→Pre x
 back:∀ k o,l[k]?=some o→L k=true→∀ j∈waits o,L j=true
 few:∀ k,L k=true→k<l.length
theorem QA (a:Act) (d:Option Tmp) (u:Value) (h:∀ s,d=some s→u=a.eval (.tmp s)):a.put d u=a:=by
 cases d with
 | none=>rfl
 | some s =>
  rw [h s rfl];simp only [Act.put,Act.eval];congr 1;apply Array.ext
  ·simp
  ·intro i h1 h2;rw [Array.getElem_setIfInBounds ML];split
   ·rename_i e;subst e;simp [Array.getD,h2]
   ·rfl
theorem MQ (a:Act) (d:Option Tmp) (u v:Value):(a.put d v).put d u=a.put d u:=by
 cases d with
 | none=>rfl
 | some s=>simp [Act.put]
theorem QB (a:Act) (d e:Option Tmp) (u v:Value) (h:∀ s,d=some s→e≠some s):(a.put d u).put e v=(a.put e v).put d u:=by
 cases d with
 | none=>rfl
 | some s =>
  cases e with
  | none=>rfl
  | some t =>
   have:s≠t:=fun e=>h s rfl (by rw [e]);simp only [Act.put];rw [Array.setIfInBounds_comm _ _ this]
theorem QC {s:Tmp} (ho:l[i]?=some o) (hd:o.dst=some s):s∈zl l :=
 List.mem_filterMap.2 ⟨o,IQ ho,hd⟩
theorem zm (d:Option Tmp) (u:Value):∀ (l:List Oper) (k:Nat) (a:Act) (v:Nat→Value),(∀ s,d=some s→s∉zl l)→(aq a k l v).put d u=aq (a.put d u) k l v
 | [],_,_,_,_=>rfl
 | o::r,k,a,v,h=>by
  unfold aq;have hr:∀ s,d=some s→s∉zl r:=fun s hs hm=>h s hs (by
   unfold zl at hm ⊢
   rw [uN]
   split
   ·exact hm
   ·exact xY _ hm)
  rw [zm d u r (k+1) _ v hr,QB a o.dst d (v k) u (fun s hs e=>h s e (QC (i:=0) rfl hs))]
theorem yZ (u:Value):∀ (l:List Oper) (k i:Nat) (a:Act) (v:Nat→Value) (o:Oper),(zl l).Nodup→l[i]?=some o→(aq a k l v).put o.dst u=aq a k l (fun j=>if j=k+i then u else v j)
 | [],_,_,_,_,_,_,h=>by simp at h
 | x::r,k,0,a,v,o,hn,h=>by
  simp only [List.getElem?_cons_zero,Option.some.injEq] at h;subst h;unfold aq;have hf:∀ s,x.dst=some s→s∉zl r:=fun s hs=>by unfold zl at hn;rw [uN,hs] at hn;exact (List.nodup_cons.1 hn).1
  rw [zm x.dst u r (k+1) _ v hf,MQ];simp only [Nat.add_zero,if_true];have:∀ (r:List Oper) (m:Nat) (b:Act),k<m→aq b m r v=aq b m r (fun j=>if j=k then u else v j):=by
   intro r
   induction r with
   | nil=>intros;rfl
   | cons y r ih =>
    intro m b hm;unfold aq;have e:(fun j=>if j=k then u else v j) m=v m:=if_neg ax;rw [e];exact ih (m+1) _ ax
  exact this r (k+1) _ ax
 | x::r,k,i+1,a,v,o,hn,h=>by
  simp only [List.getElem?_cons_succ] at h;unfold aq;have hn':(zl r).Nodup:=by
   unfold zl at hn ⊢;rw [uN] at hn;split at hn
   ·exact hn
   ·exact (List.nodup_cons.1 hn).2
  have e:(fun j=>if j=k+(i+1) then u else v j) k=v k:=if_neg ax;rw [yZ u r (k+1) i _ v o hn' h,e,Nat.add_assoc,Nat.add_comm 1 i]
theorem xy (a:Act):∀ (l:List Oper) (k:Nat) (v:Nat→Value),(∀ i o s,l[i]?=some o→o.dst=some s→v (k+i)=a.eval (.tmp s))→aq a k l v=a
 | [],_,_,_=>rfl
 | o::r,k,v,h=>by
  unfold aq;rw [QA a o.dst (v k) (fun s hs=>h 0 o s rfl hs)];exact xy a r (k+1) v fun i o s ho hs=>by
   have:=h (i+1) o s (by simpa using ho) hs
   rwa [Nat.add_assoc,Nat.add_comm 1 i]
theorem Qs {ops:Array Oper} {K:Act→World→Prop} (ho:ops[i]?=some o) (hg:Region.wanted o (yielded ops a.tmps)=true) (h:o.wp P a w K Q):wpOp P ops Q i K a w:=by unfold wpOp;rw [ho];simp only [hg,if_true];exact .inl h
theorem K9.keep {M:Nat→Bool} {v:Nat→Value} {G:Nat→Nat} (h:K9 l S w0 Kd Pre Post M v G x)
 (dQ:∀ k o K,l[k]?=some o→Kd[k]?=some K→VZ P l S w0 Kd Pre Post Q a0 k o K) (hi:M i=false) (u:Value) :
 (∀ k f,Kd[k]?=some (.val f)→M k=true→(fun j=>if j=i then u else v j) k=f fun j=>if j=i then u else v j) ∧
 ∀ k mk T z ks c,Kd[k]?=some (.blk mk T z ks c)→M k=true→(fun j=>if j=i then u else v j) k=mk (G k) ∧
  (M ks=true→c (fun j=>if j=i then u else v j)=c v)∧(z fun j=>if j=i then u else v j)=z v:=by
 have hop:∀ k,M k=true→∃ o,l[k]?=some o:=fun k hk=>⟨_,lz (h.few k hk)⟩
 have hne:∀ k o,l[k]?=some o→M k=true→∀ j∈waits o,v j=(fun j=>if j=i then u else v j) j:=fun k o ho hk j hj=>by
  have:=h.back k o ho hk j hj
  have:j≠i:=fun e=>by rw [e,hi] at this;cases this
  simp [this]
 have hki:∀ k,M k=true→k≠i:=fun k hk e=>by rw [e,hi] at hk;cases hk
 refine ⟨fun k f hf hk=>?_,fun k mk T z ks c hb hk=>?_⟩
 ·obtain ⟨o,ho⟩:=hop k hk;obtain ⟨hd,_⟩:=dQ k o _ ho hf;simp only [if_neg (hki k hk)];rw [h.vals k f hf hk];exact hd _ _ (hne k o ho hk)
 ·obtain ⟨o,ho⟩:=hop k hk;obtain ⟨hks,hd,_⟩:=dQ k o _ ho hb;refine ⟨?_,fun hm=>?_,(hd _ _ (hne k o ho hk)).symm⟩
  ·simp only [if_neg (hki k hk)];exact (h.blks k mk T z ks c hb hk).1
  ·obtain ⟨os,hos⟩:=hop ks hm;obtain ⟨_,_,mk',T',z',c',he,hd',_⟩:=dQ ks os _ hos (hks (h.few ks hm));rw [hb] at he;cases he;exact (hd' _ _ (hne ks os hos hm)).symm
theorem aK {ys:Nat→Option Bool} (h:o.guard=none):Region.wanted o ys=true:=by unfold Region.wanted;rw [h]
theorem DU {ops:Array Oper} (hg:o.guard=none) (h:wpQuiet P ops (fun y=>∃ z:Later x,y=z.world) (fun b=>b=A) [o] a) :
 o.wp P a x (fun b y=>b=A∧Below x.heap.size x y) Q:=by
 unfold wpQuiet at h
 have hw:Region.wanted o (yielded ops a.tmps)=true:=by unfold Region.wanted;rw [hg]
 rw [hw] at h
 simp only [if_true] at h
 refine Oper.wp_of_quiet (C:=fun y=>∃ z:Later x,y=z.world) (K:=fun b=>b=A) ⟨⟨x,Below.refl _ _⟩,rfl⟩ ?_ h
 rintro b y ⟨z,rfl⟩ hb
 exact ⟨hb,z.below⟩
theorem gX (h:az S w0 x) {p:Addr} (hc:w0.cell? p=some u) (hn:p.block∉S) (z:Later x):z.world.cell? p=some u:=by have hb:=World.block_lt_of_cell? w0 p hc;have e:z.world.heap[p.block]?=w0.heap[p.block]?:=(z.below.block _ (Nat.lt_of_lt_of_le hb h.size)).trans (h.block _ hb hn);rw [←hc];unfold World.cell?;rw [e]
end
section
variable {P:Program} {l:List Oper} {w0:World} {Q:Exit→Act→World→Prop} {a0:Act}
def QD (P:Program) (l:List Oper) (Q:Exit→Act→World→Prop) (a0:Act) (F:Nat→Option Value) (M:(Nat→Bool)→(Nat→Value)→World→Prop) (k:Nat) (o:Oper):Prop :=
 ∀ (L:Nat→Bool) (v:Nat→Value) (x:World),L k=false→(∀ j∈waits o,L j=true)→(∀ j u,j∈waits o→F j=some u→v j=u)→(∀ (i j:Nat) (o':Oper),l[i]?=some o'→j∈waits o'→L i=true→L j=true)→M L v x →
  Region.wanted o (yielded l.toArray (aq a0 0 l v).tmps)=true∧o.wp P (aq a0 0 l v) x (fun a' y=>match F k with
   | some u=>a'=(aq a0 0 l v).put o.dst u∧M L v y
   | none=>∃ u,a'=(aq a0 0 l v).put o.dst u∧M (fun j=>L j||j==k) (fun j=>if j=k then u else v j) y) Q
def tF (P:Program) (l:List Oper) (Q:Exit→Act→World→Prop) (a0:Act) (F:Nat→Option Value) (M:(Nat→Bool)→(Nat→Value)→World→Prop):Nat→List Oper→Prop
 | _,[]=>True
 | k,o::r=>QD P l Q a0 F M k o∧tF P l Q a0 F M (k+1) r
theorem tF.at {F:Nat→Option Value} {M:(Nat→Bool)→(Nat→Value)→World→Prop} (r:List Oper):∀ (k:Nat),tF P l Q a0 F M k r→∀ i o,r[i]?=some o→QD P l Q a0 F M (k+i) o:=by exact a942
theorem rP (F:Nat→Option Value) (M:(Nat→Bool)→(Nat→Value)→World→Prop) (hm:P.follows .mixedOrders=true) (hB:kz l n=true)
 (h0:∀ L v,(∀ i,i<l.length→L i=false)→M L v w0.drew)
 (hM:∀ L L' v v' x,(∀ k,k<l.length→F k=none→L k=L' k∧(L k=true→v k=v' k))→M L v x→M L' v' x)
 (dQ:tF P l Q a0 F M 0 l)
 (hend:∀ L v x,(∀ i,i<l.length→L i=true)→(∀ k u,k<l.length→F k=some u→v k=u)→M L v x→Q .normal (aq a0 0 l v) x):(Code.region id l.toArray true).wp P Q a0 w0:=by
 unfold kz at hB
 rw [gi,gi,decide_eq_true_eq,Bq] at hB
 obtain ⟨⟨qb,_⟩,hB2⟩:=hB
 have Qr:∀ (i:Nat) (o:Oper),l[i]?=some o→∀ j∈waits o,j<i:=fun i o ho=>by exact a980
 refine sI (fun L a x=>(∀ (i j:Nat) (o':Oper),l[i]?=some o'→j∈waits o'→L i=true→L j=true)∧∃ v,a=aq a0 0 l v∧(∀ k u,k<l.length→F k=some u→L k=true→v k=u)∧M L v x) hm (fun i o ho e he hb=>?_) (fun L hL=>?_) (fun i o L a x ho hLi haft hI=>?_) (fun L a x hL hI=>?_)
 ·exact Z8
 ·exact a943
 ·exact a98
 ·exact Lv
theorem eN {K:Act→World→Prop} (hg:o.guard=none) (hk:∀ y,Below x.heap.size x y→K A y) (h:wpQuiet P #[] (fun y=>∃ z:Later x,y=z.world) (fun b=>b=A) [o] a):o.wp P a x K Q :=
 Oper.wp_mono (by rintro a' y ⟨rfl,hb⟩;exact hk y hb) (DU (ops:=#[]) hg h)
theorem lT {K:Act→World→Prop} {W:World} (hk:K A W) (h:o.wp P a x (fun a' y=>a'=A∧y=W) Q):o.wp P a x K Q :=
 Oper.wp_mono (by rintro a' y ⟨rfl,rfl⟩;exact hk) h
end
section
variable {P:Program} {l:List Oper} {w0:World} {Q:Exit→Act→World→Prop} {a0:Act}
def Fq (P:Program) (l:List Oper) (Q:Exit→Act→World→Prop) (a0:Act) (Wr:List Nat) (F:Nat→Option Value) (I:Nat→World→Prop) (k:Nat) (o:Oper):Prop :=
 (k∉Wr∧∃ u,F k=some u∧∀ i v x,I i x→(∀ j u,j∈waits o→F j=some u→v j=u)→(∀ (j n:Nat),j∈waits o→Wr[n]?=some j→n<i)→Region.wanted o (yielded l.toArray (aq a0 0 l v).tmps)=true∧o.wp P (aq a0 0 l v) x (fun a' y=>a'=(aq a0 0 l v).put o.dst u∧Below x.heap.size x y) Q) ∨
 ∃ i,Wr[i]?=some k∧∀ v x,I i x→(∀ j u,j∈waits o→F j=some u→v j=u)→Region.wanted o (yielded l.toArray (aq a0 0 l v).tmps)=true∧o.wp P (aq a0 0 l v) x (fun a' y=>∃ u,(∀ u',F k=some u'→u=u')∧a'=(aq a0 0 l v).put o.dst u∧I (i+1) y) Q
def zn (P:Program) (l:List Oper) (Q:Exit→Act→World→Prop) (a0:Act) (Wr:List Nat) (F:Nat→Option Value) (I:Nat→World→Prop):Nat→List Oper→Prop
 | _,[]=>True
 | k,o::r=>Fq P l Q a0 Wr F I k o∧zn P l Q a0 Wr F I (k+1) r
theorem zn.at {Wr:List Nat} {F:Nat→Option Value} {I:Nat→World→Prop} (r:List Oper):∀ (k:Nat),zn P l Q a0 Wr F I k r→∀ i o,r[i]?=some o→Fq P l Q a0 Wr F I (k+i) o:=by exact a942
theorem BV {M:(Nat→Bool)→(Nat→Value)→World→Prop} (r:List Oper):∀ (k:Nat),(∀ i o,r[i]?=some o→QD P l Q a0 F M (k+i) o)→tF P l Q a0 F M k r:=by
 induction r with
 | nil=>intro k _;trivial
 | cons o r ih =>
  intro k h
  refine ⟨h 0 o rfl,ih (k+1) fun i o' ho=>?_⟩
  have:=h (i+1) o' (by simpa using ho)
  rwa [Nat.add_assoc,Nat.add_comm 1 i]
def chainB (l:List Oper) (Wr:List Nat):Bool:=decide Wr.Nodup&&(Wr.all fun k=>decide (k<l.length))&&((List.range (Wr.length - 1)).all fun i=>match Wr[i]?,Wr[i+1]? with
 | some a,some b=>match l[b]? with
  | some o=>(waits o).contains a
  | none=>false
 | _,_=>false)
theorem qo (Wr:List Nat) (F:Nat→Option Value) (I:Nat→World→Prop) (hm:P.follows .mixedOrders=true) (hB:kz l n=true) (hC:chainB l Wr=true)
 (h0:I 0 w0.drew) (hI:∀ i x y,I i x→Below x.heap.size x y→I i y)
 (dQ:zn P l Q a0 Wr F I 0 l)
 (hend:∀ v x,(∀ k u,k<l.length→F k=some u→v k=u)→I Wr.length x→Q .normal (aq a0 0 l v) x):(Code.region id l.toArray true).wp P Q a0 w0:=by
 unfold chainB at hC
 rw [gi,gi,decide_eq_true_eq] at hC
 obtain ⟨⟨qb,hlen⟩,hch⟩:=hC
 have hlt:∀ i k,Wr[i]?=some k→k<l.length:=fun i k h=>by exact RB
 have hnext:∀ i a b,Wr[i]?=some a→Wr[i+1]?=some b→∃ o,l[b]?=some o∧a∈waits o:=fun i a b ha hb=>by exact a948
 have hinj:∀ i j k,Wr[i]?=some k→Wr[j]?=some k→i=j:=fun i j k hi hj=>by exact a988
 refine rP (n:=n) (fun k=>if k∈Wr then none else F k) (fun L v x=>∃ i,(∀ j k,Wr[j]?=some k→(L k=true↔j<i))∧(∀ j k u,Wr[j]?=some k→j<i→F k=some u→v k=u)∧i≤Wr.length∧I i x) hm hB ?_ ?_ ?_ ?_
 ·intro L v hL;exact ⟨0,fun j k hk=>by rw [hL k (hlt j k hk)];simp,fun j k u _ hj=>absurd hj (Nat.not_lt_zero _),pR _,h0⟩
 ·intro L L' v v' x hk ⟨i,h1,h2,h3,h4⟩;have hw:∀ j k,Wr[j]?=some k→L k=L' k∧(L k=true→v k=v' k):=fun j k hj=>hk k (hlt j k hj) (by simp [IQ hj]);exact ⟨i,fun j k hj=>by rw [←(hw j k hj).1];exact h1 j k hj,fun j k u hj hji hu=>((hw j k hj).2 ((h1 j k hj).2 hji)).symm.trans (h2 j k u hj hji hu),h3,h4⟩
 ·refine BV l 0 fun k o ho=>?_;rw [bF];have hst:=zn.at l 0 dQ k o ho;rw [bF] at hst;intro L v x jR hW hF hbk ⟨i,h1,h2,h3,h4⟩;have Fl:∀ j u,j∈waits o→F j=some u→v j=u:=fun j u hj hu=>by
   by_cases hjw:j∈Wr
   ·obtain ⟨n',hn'⟩:=bf hjw;exact h2 n' j u hn' ((h1 n' j hn').1 (hW j hj)) hu
   ·exact hF j u hj (by simp only [if_neg hjw];exact hu)
  rcases hst with ⟨hnw,u,hu,hst⟩|⟨i',hi',hst⟩
  ·obtain ⟨hg,hr⟩:=hst i v x h4 Fl (fun j n' hj hn'=>(h1 n' j hn').1 (hW j hj));refine ⟨hg,Oper.wp_mono ?_ hr⟩;rintro a' y ⟨rfl,hb⟩;simp only [if_neg hnw,hu];exact ⟨trivial,i,h1,h2,h3,hI i x y h4 hb⟩
  ·have VS:k∈Wr:=IQ hi';have hle:¬i'<i:=fun h=>by
    have:=(h1 i' k hi').2 h
    rw [jR] at this;cases this
   have hge:¬i<i':=fun h=>by exact a944
   obtain rfl:i=i':=ax;obtain ⟨hg,hr⟩:=hst v x h4 Fl;refine ⟨hg,Oper.wp_mono ?_ hr⟩;rintro a' y ⟨u,hu,rfl,hy⟩;simp only [if_pos VS];refine ⟨u,rfl,i+1,fun j k' hj=>?_,fun j k' u' hj hji E8=>?_,?_,hy⟩
   ·by_cases e:k'=k
    ·subst e;obtain rfl:=hinj j i k' hj hi';simp
    ·have e':(k'==k)=false:=Ip;simp only [e',pS];rw [h1 j k' hj];have:j≠i:=fun h=>e (by subst h;rw [hi'] at hj;cases hj;rfl);omega
   ·by_cases e:k'=k
    ·subst e;simp only [if_true];exact hu u' E8
    ·simp only [if_neg e];have:j≠i:=fun h=>e (by subst h;rw [hi'] at hj;cases hj;rfl);exact h2 j k' u' hj ax E8
   ·have:=(List.getElem?_eq_some_iff.1 hi').1;omega
 ·intro L v x hL hF ⟨i,h1,h2,h3,h4⟩;have hi:i=Wr.length:=by
   apply Decidable.byContradiction
   intro hne
   have hlt':i<Wr.length:=ax
   have:=(h1 i _ (lz hlt')).1 (hL _ (hlt i _ (lz hlt')))
   omega
  subst hi;refine hend v x (fun k u hk hu=>?_) h4;by_cases VS:k∈Wr
  ·obtain ⟨n',hn'⟩:=bf VS;exact h2 n' k u hn' (List.getElem?_eq_some_iff.1 hn').1 hu
  ·exact hF k u hk (by simp only [if_neg VS];exact hu)
theorem bH {I:Nat→World→Prop} (hk:k∉Wr) (hu:F k=some u) (hg:o.guard=none)
 (h:∀ i v x,I i x→(∀ j u,j∈waits o→F j=some u→v j=u)→(∀ (j n:Nat),j∈waits o→Wr[n]?=some j→n<i)→wpQuiet P #[] (fun y=>∃ z:Later x,y=z.world) (fun b=>b=(aq a0 0 l v).put o.dst u) [o] (aq a0 0 l v)):Fq P l Q a0 Wr F I k o :=
 .inl ⟨hk,u,hu,fun i v x h1 h2 h3=>⟨aK hg,eN hg (fun _ hb=>⟨rfl,hb⟩) (h i v x h1 h2 h3)⟩⟩
theorem qp {I:Nat→World→Prop} (i:Nat) (hk:Wr[i]?=some k) (hg:o.guard=none)
 (h:∀ v x,I i x→(∀ j u,j∈waits o→F j=some u→v j=u)→o.wp P (aq a0 0 l v) x (fun a' y=>∃ u,(∀ u',F k=some u'→u=u')∧a'=(aq a0 0 l v).put o.dst u∧I (i+1) y) Q):Fq P l Q a0 Wr F I k o :=
 .inr ⟨i,hk,fun v x h1 h2=>⟨aK hg,h v x h1 h2⟩⟩
theorem BW {I:Nat→World→Prop} (i:Nat) (hk:Wr[i]?=some k) (hg:o.guard=none) (hF:F k=none)
 (h:∀ v x,I i x→(∀ j u,j∈waits o→F j=some u→v j=u)→∃ W,I (i+1) W∧o.wp P (aq a0 0 l v) x (fun a' y=>a'=(aq a0 0 l v).put o.dst undef∧y=W) Q):Fq P l Q a0 Wr F I k o :=
 qp i hk hg fun v x h1 h2=>by obtain ⟨W,hW,hr⟩:=h v x h1 h2;refine Oper.wp_mono ?_ hr;rintro a' y ⟨rfl,rfl⟩;exact ⟨undef,fun u' h=>(by rw [hF] at h;cases h),rfl,hW⟩
end
section
variable {P:Program} {l:List Oper} {w0:World} {Q:Exit→Act→World→Prop} {a0:Act}
abbrev SPred:Type:=(Nat→Bool)→(Nat→Value)→World→Prop
def La (P:Program) (l:List Oper) (Q:Exit→Act→World→Prop) (a0:Act) (Wr Al:List Nat) (F:Nat→Option Value) (I:Nat→SPred) (k:Nat) (o:Oper):Prop :=
 (k∉Wr∧k∉Al∧∃ u,F k=some u∧∀ i L v x,I i L v x→(∀ j u,j∈waits o→F j=some u→v j=u)→(∀ j,j∈waits o→L j=true)→(∀ (n j:Nat),Wr[n]?=some j→j∈waits o→n<i)→(∀ (n j:Nat) (o':Oper),Wr[n]?=some j→l[j]?=some o'→k∈waits o'→i≤n)→Region.wanted o (yielded l.toArray (aq a0 0 l v).tmps)=true∧o.wp P (aq a0 0 l v) x (fun a' y=>a'=(aq a0 0 l v).put o.dst u∧Below x.heap.size x y) Q) ∨
 (k∉Wr∧k∈Al∧F k=none∧∀ i L v x,I i L v x→L k=false→(∀ (n j:Nat) (o':Oper),Wr[n]?=some j→l[j]?=some o'→k∈waits o'→i≤n)→Region.wanted o (yielded l.toArray (aq a0 0 l v).tmps)=true∧o.wp P (aq a0 0 l v) x (fun a' y=>∃ u,a'=(aq a0 0 l v).put o.dst u∧I i (fun j=>L j||j==k) (fun j=>if j=k then u else v j) y) Q) ∨
 ∃ i,Wr[i]?=some k∧k∉Al∧∀ L v x,I i L v x→(∀ j,j∈waits o→L j=true)→(∀ j u,j∈waits o→F j=some u→v j=u)→Region.wanted o (yielded l.toArray (aq a0 0 l v).tmps)=true∧o.wp P (aq a0 0 l v) x (fun a' y=>∃ u,(∀ u',F k=some u'→u=u')∧a'=(aq a0 0 l v).put o.dst u∧I (i+1) L (fun q=>if q=k then u else v q) y) Q
def jw (P:Program) (l:List Oper) (Q:Exit→Act→World→Prop) (a0:Act) (Wr Al:List Nat) (F:Nat→Option Value) (I:Nat→SPred):Nat→List Oper→Prop
 | _,[]=>True
 | k,o::r=>La P l Q a0 Wr Al F I k o∧jw P l Q a0 Wr Al F I (k+1) r
theorem jw.at {Wr Al:List Nat} {F:Nat→Option Value} {I:Nat→SPred} (r:List Oper):∀ (k:Nat),jw P l Q a0 Wr Al F I k r→∀ i o,r[i]?=some o→La P l Q a0 Wr Al F I (k+i) o:=by exact a942
theorem QE (Wr Al:List Nat) (F:Nat→Option Value) (I:Nat→SPred) (hm:P.follows .mixedOrders=true) (hB:kz l n=true) (hC:chainB l Wr=true)
 (h0:∀ L v,(∀ k∈Al,k<l.length→L k=false)→I 0 L v w0.drew) (hI:∀ i L v x y,I i L v x→Below x.heap.size x y→I i L v y) (YP:∀ i L L' v v' x,(∀ k∈Al,k<l.length→L k=L' k∧(L k=true→v k=v' k))→(∀ j k,j<i→Wr[j]?=some k→v k=v' k)→I i L v x→I i L' v' x)
 (dQ:jw P l Q a0 Wr Al F I 0 l)
 (hend:∀ L v x,(∀ k u,k<l.length→F k=some u→v k=u)→(∀ k,k<l.length→L k=true)→I Wr.length L v x→Q .normal (aq a0 0 l v) x):(Code.region id l.toArray true).wp P Q a0 w0:=by
 unfold chainB at hC
 rw [gi,gi,decide_eq_true_eq] at hC
 obtain ⟨⟨qb,hlen⟩,hch⟩:=hC
 have hlt:∀ i k,Wr[i]?=some k→k<l.length:=fun i k h=>by exact RB
 have hnext:∀ i a b,Wr[i]?=some a→Wr[i+1]?=some b→∃ o,l[b]?=some o∧a∈waits o:=fun i a b ha hb=>by exact a948
 have hinj:∀ i j k,Wr[i]?=some k→Wr[j]?=some k→i=j:=fun i j k hi hj=>by exact a988
 refine rP (n:=n) (fun k=>if k∈Wr then none else F k) (fun L v x=>∃ i,(∀ j k,Wr[j]?=some k→(L k=true↔j<i))∧(∀ j k u,Wr[j]?=some k→j<i→F k=some u→v k=u)∧i≤Wr.length∧(∀ k∈Al,k<l.length→k∉Wr∧F k=none)∧I i L v x) hm hB ?_ ?_ ?_ ?_
 ·exact a973
 ·exact Fm
 ·exact a92
 ·exact S3
def stg (Ps:List SPred) (i:Nat) (L:Nat→Bool) (v:Nat→Value) (x:World):Prop:=∃ p,Ps[i]?=some p∧p L v x
def iq (P:Program) (l:List Oper) (Q:Exit→Act→World→Prop) (a0:Act) (Wr Al:List Nat) (F:Nat→Option Value) (Ps:List SPred) (Lc:List (Nat×Obj)) (k:Nat) (o:Oper):Prop :=
 (k∉Wr∧k∉Al∧o.guard=none∧∃ u,F k=some u∧∃ Lk:List (Nat×Obj),(Lk=Lc∨∃ (n j:Nat) (o':Oper),Wr[n]?=some j∧l[j]?=some o'∧k∈waits o'∧∀ (m:Nat) (p:SPred),m≤n→Ps[m]?=some p→∀ (L:Nat→Bool) (v:Nat→Value) (x:World),p L v x→Mem x Lk x)∧∀ v x,Mem x Lk x→(∀ j u,j∈waits o→F j=some u→v j=u)→wpQuiet P #[] (fun y=>∃ z:Later x,y=z.world) (fun b=>b=(aq a0 0 l v).put o.dst u) [o] (aq a0 0 l v)) ∨
 (k∉Wr∧k∉Al∧o.guard=none∧∃ u,F k=some u∧∀ (m:Nat) (p:SPred),Ps[m]?=some p→∀ (L:Nat→Bool) (v:Nat→Value) (x:World),p L v x→(∀ j u,j∈waits o→F j=some u→v j=u)→wpQuiet P #[] (fun y=>∃ z:Later x,y=z.world) (fun b=>b=(aq a0 0 l v).put o.dst u) [o] (aq a0 0 l v)) ∨
 (k∉Wr∧k∉Al∧o.guard=none∧∃ u,F k=some u∧∃ (n j:Nat),Wr[n]?=some j∧j∈waits o∧∀ (m:Nat) (p:SPred),n<m→Ps[m]?=some p→∀ (L:Nat→Bool) (v:Nat→Value) (x:World),p L v x→(∀ j u,j∈waits o→F j=some u→v j=u)→wpQuiet P #[] (fun y=>∃ z:Later x,y=z.world) (fun b=>b=(aq a0 0 l v).put o.dst u) [o] (aq a0 0 l v)) ∨
 (k∉Wr∧k∈Al∧o.guard=none∧F k=none∧∃ (n j:Nat) (o':Oper),Wr[n]?=some j∧l[j]?=some o'∧k∈waits o'∧∀ (m:Nat) (p:SPred),m≤n→Ps[m]?=some p→∀ (L:Nat→Bool) (v:Nat→Value) (x:World),p L v x→L k=false→o.wp P (aq a0 0 l v) x (fun a' y=>∃ u,a'=(aq a0 0 l v).put o.dst u∧p (fun j=>L j||j==k) (fun j=>if j=k then u else v j) y) Q) ∨
 (∃ i p q,Wr[i]?=some k∧k∉Al∧o.guard=none∧Ps[i]?=some p∧Ps[i+1]?=some q∧∀ L v x,p L v x→Mem x Lc x→(∀ j,j∈waits o→L j=true)→(∀ j u,j∈waits o→F j=some u→v j=u) →
  o.wp P (aq a0 0 l v) x (fun a' y=>∃ u,(∀ u',F k=some u'→u=u')∧a'=(aq a0 0 l v).put o.dst u∧q L (fun j=>if j=k then u else v j) y) Q)
def oP (P:Program) (l:List Oper) (Q:Exit→Act→World→Prop) (a0:Act) (Wr Al:List Nat) (F:Nat→Option Value) (Ps:List SPred) (Lc:List (Nat×Obj)):Nat→List Oper→Prop
 | _,[]=>True
 | k,o::r=>iq P l Q a0 Wr Al F Ps Lc k o∧oP P l Q a0 Wr Al F Ps Lc (k+1) r
theorem ja {Ps:List SPred} (hk:k∉Wr∧k∉Al) (hu:F k=some u) (hg:o.guard=none)
 (h:∀ v x,Mem x Lc x→(∀ j u,j∈waits o→F j=some u→v j=u)→wpQuiet P #[] (fun y=>∃ z:Later x,y=z.world) (fun b=>b=(aq a0 0 l v).put o.dst u) [o] (aq a0 0 l v)):iq P l Q a0 Wr Al F Ps Lc k o :=
 .inl ⟨hk.1,hk.2,hg,u,hu,Lc,.inl rfl,h⟩
theorem IY {Ps:List SPred} (Lk:List (Nat×Obj)) (n j:Nat) (hk:k∉Wr∧k∉Al) (hu:F k=some u) (hg:o.guard=none) (hn:Wr[n]?=some j) (hl:l[j]?=some o') (hw:k∈waits o') (hm:∀ (m:Nat) (p:SPred),m≤n→Ps[m]?=some p→∀ (L:Nat→Bool) (v:Nat→Value) (x:World),p L v x→Mem x Lk x)
 (h:∀ v x,Mem x Lk x→(∀ j u,j∈waits o→F j=some u→v j=u)→wpQuiet P #[] (fun y=>∃ z:Later x,y=z.world) (fun b=>b=(aq a0 0 l v).put o.dst u) [o] (aq a0 0 l v)):iq P l Q a0 Wr Al F Ps Lc k o :=
 .inl ⟨hk.1,hk.2,hg,u,hu,Lk,.inr ⟨n,j,o',hn,hl,hw,hm⟩,h⟩
theorem MR {Ps:List SPred} (n j:Nat) (hk:k∉Wr∧k∉Al) (hu:F k=some u) (hg:o.guard=none) (hn:Wr[n]?=some j) (hj:j∈waits o)
 (h:∀ (m:Nat) (p:SPred),n<m→Ps[m]?=some p→∀ (L:Nat→Bool) (v:Nat→Value) (x:World),p L v x→(∀ j u,j∈waits o→F j=some u→v j=u)→wpQuiet P #[] (fun y=>∃ z:Later x,y=z.world) (fun b=>b=(aq a0 0 l v).put o.dst u) [o] (aq a0 0 l v)):iq P l Q a0 Wr Al F Ps Lc k o :=
 .inr (.inr (.inl ⟨hk.1,hk.2,hg,u,hu,n,j,hn,hj,h⟩))
theorem zo {Ps:List SPred} (hk:k∉Wr∧k∉Al) (hu:F k=some u) (hg:o.guard=none)
 (h:∀ (m:Nat) (p:SPred),Ps[m]?=some p→∀ (L:Nat→Bool) (v:Nat→Value) (x:World),p L v x→(∀ j u,j∈waits o→F j=some u→v j=u)→wpQuiet P #[] (fun y=>∃ z:Later x,y=z.world) (fun b=>b=(aq a0 0 l v).put o.dst u) [o] (aq a0 0 l v)):iq P l Q a0 Wr Al F Ps Lc k o :=
 .inr (.inl ⟨hk.1,hk.2,hg,u,hu,h⟩)
theorem QF {Ps:List SPred} (n j:Nat) (hk:k∉Wr) (hka:k∈Al) (hu:F k=none) (hg:o.guard=none) (hn:Wr[n]?=some j) (hl:l[j]?=some o') (hw:k∈waits o')
 (h:∀ (m:Nat) (p:SPred),m≤n→Ps[m]?=some p→∀ (L:Nat→Bool) (v:Nat→Value) (x:World),p L v x→L k=false→o.wp P (aq a0 0 l v) x (fun a' y=>∃ u,a'=(aq a0 0 l v).put o.dst u∧p (fun j=>L j||j==k) (fun j=>if j=k then u else v j) y) Q):iq P l Q a0 Wr Al F Ps Lc k o :=
 .inr (.inr (.inr (.inl ⟨hk,hka,hg,hu,n,j,o',hn,hl,hw,h⟩)))
theorem Fs {Ps:List SPred} {p q:SPred} (i:Nat) (hk:Wr[i]?=some k) (hka:k∉Al) (hg:o.guard=none) (hp:Ps[i]?=some p) (hq:Ps[i+1]?=some q)
 (h:∀ L v x,p L v x→Mem x Lc x→(∀ j,j∈waits o→L j=true)→(∀ j u,j∈waits o→F j=some u→v j=u)→o.wp P (aq a0 0 l v) x (fun a' y=>∃ u,(∀ u',F k=some u'→u=u')∧a'=(aq a0 0 l v).put o.dst u∧q L (fun j=>if j=k then u else v j) y) Q):iq P l Q a0 Wr Al F Ps Lc k o :=
 .inr (.inr (.inr (.inr ⟨i,p,q,hk,hka,hg,hp,hq,h⟩)))
theorem BX (Wr Al:List Nat) (F:Nat→Option Value) (Lc:List (Nat×Obj)) (Ps:List SPred) (hm:P.follows .mixedOrders=true) (hB:kz l n=true) (hC:chainB l Wr=true)
 (hmem:∀ p∈Ps,∀ L v x,p L v x→Mem x Lc x) (hI:∀ p∈Ps,∀ L v x y,p L v x→Below x.heap.size x y→p L v y)
 (YP:∀ (i:Nat) (p:SPred),Ps[i]?=some p→∀ (L L':Nat→Bool) (v v':Nat→Value) (x:World),(∀ k∈Al,k<l.length→L k=L' k∧(L k=true→v k=v' k))→(∀ j k,j<i→Wr[j]?=some k→v k=v' k)→p L v x→p L' v' x) {p0 pz:SPred} (DG:Ps[0]?=some p0) (h0:∀ L v,(∀ k∈Al,k<l.length→L k=false)→p0 L v w0.drew) (YT:Ps[Wr.length]?=some pz)
 (dQ:oP P l Q a0 Wr Al F Ps Lc 0 l)
 (hend:∀ L v x,(∀ k u,k<l.length→F k=some u→v k=u)→(∀ k,k<l.length→L k=true)→pz L v x→Q .normal (aq a0 0 l v) x):(Code.region id l.toArray true).wp P Q a0 w0:=by
 refine QE (n:=n) Wr Al F (stg Ps) hm hB hC (fun L v hL=>⟨p0,DG,h0 L v hL⟩) ?_ ?_ ?_ ?_
 ·exact ZI
 ·exact YQ
 ·suffices h:∀ (r:List Oper) (k:Nat),oP P l Q a0 Wr Al F Ps Lc k r→jw P l Q a0 Wr Al F (stg Ps) k r from h l 0 dQ
  exact a914
 ·exact UN
theorem MS {Ps:List SPred} (ob:Obj) (n j:Nat) (hk:k∉Wr) (hka:k∈Al) (hu:F k=none) (hg:o.guard=none) (hn:Wr[n]?=some j) (hl:l[j]?=some o') (hw:k∈waits o')
 (ho:∀ v x,o.wp P (aq a0 0 l v) x (fun a' y=>a'=(aq a0 0 l v).put o.dst (.pointer (some ⟨x.heap.size,0,none⟩))∧y=x.alloc ob) Q)
 (h:∀ (m:Nat) (p:SPred),m≤n→Ps[m]?=some p→∀ (L:Nat→Bool) (v:Nat→Value) (x:World),p L v x→L k=false→p (fun j=>L j||j==k) (fun j=>if j=k then .pointer (some ⟨x.heap.size,0,none⟩) else v j) (x.alloc ob)):iq P l Q a0 Wr Al F Ps Lc k o :=
 QF n j hk hka hu hg hn hl hw fun m p hm hp L v x h1 h2=>Oper.wp_mono (by rintro _ _ ⟨rfl,rfl⟩;exact ⟨_,rfl,h m p hm hp L v x h1 h2⟩) (ho v x)
theorem BZ {Ps:List SPred} {p q:SPred} (i:Nat) (u:Value) (hk:Wr[i]?=some k) (hka:k∉Al) (hg:o.guard=none) (hp:Ps[i]?=some p) (hq:Ps[i+1]?=some q) (hF:∀ u',F k=some u'→u=u')
 (h:∀ L v x,p L v x→Mem x Lc x→(∀ j,j∈waits o→L j=true)→(∀ j u,j∈waits o→F j=some u→v j=u) →
  ∃ T:World→Prop,(∀ z,T z→q L (fun j=>if j=k then u else v j) z)∧o.wp P (aq a0 0 l v) x (fun a' y=>a'=(aq a0 0 l v).put o.dst u∧T y) Q):iq P l Q a0 Wr Al F Ps Lc k o :=
 Fs i hk hka hg hp hq fun L v x h1 h2 h3 h4=>by obtain ⟨T,hT,hw⟩:=h L v x h1 h2 h3 h4;refine Oper.wp_mono ?_ hw;rintro _ y ⟨rfl,hy⟩;exact ⟨u,hF,rfl,hT y hy⟩
theorem B6 {T:Value→World→Prop} (u:Value) (hg:o.guard=none) (hT:∀ y,Below x.heap.size x y→T u y) (h:wpQuiet P #[] (fun y=>∃ z:Later x,y=z.world) (fun b=>b=a.put o.dst u) [o] a):o.wp P a x (fun a' y=>∃ u,a'=a.put o.dst u∧T u y) Q :=
 eN hg (fun y hb=>⟨u,rfl,hT y hb⟩) h
theorem lU {Ps:List SPred} {p q:SPred} (i:Nat) (hk:Wr[i]?=some k) (hka:k∉Al) (hg:o.guard=none) (hp:Ps[i]?=some p) (hq:Ps[i+1]?=some q) (hF:F k=none)
 (h:∀ L v x,p L v x→Mem x Lc x→(∀ j,j∈waits o→L j=true)→(∀ j u,j∈waits o→F j=some u→v j=u) →
  ∃ T:Value→World→Prop,(∀ u z,T u z→q L (fun j=>if j=k then u else v j) z)∧o.wp P (aq a0 0 l v) x (fun a' y=>∃ u,a'=(aq a0 0 l v).put o.dst u∧T u y) Q):iq P l Q a0 Wr Al F Ps Lc k o :=
 Fs i hk hka hg hp hq fun L v x h1 h2 h3 h4=>by obtain ⟨T,hT,hw⟩:=h L v x h1 h2 h3 h4;refine Oper.wp_mono ?_ hw;rintro _ y ⟨u,rfl,hy⟩;exact ⟨u,fun u' E8=>(by rw [hF] at E8;cases E8),rfl,hT u y hy⟩
def adr:Value→Nat
 | .pointer (some a)=>a.block
 | _=>0
def IZ (L:Nat→Bool) (v:Nat→Value) (k:Nat):Prop:=L k=true→v k=.pointer (some ⟨adr (v k),0,none⟩)
end
section
variable {P:Program} {l:List Oper} {w0:World} {Q:Exit→Act→World→Prop} {a0:Act} {Wr Al:List Nat} {F:Nat→Option Value} {Ps:List SPred} {Lc:List (Nat×Obj)} {k:Nat} {o:Oper} {u:Value}
theorem PU:(∀ (a:Act) (k:Nat) (v:Nat→Value),aq a k [] v=a)∧(∀ (a:Act) (k:Nat) (o:Oper) (r:List Oper) (v:Nat→Value),aq a k (o::r) v=aq (a.put o.dst (v k)) (k+1) r v)∧(∀ (a:Act) (d:Tmp) (v:Value),a.put (some d) v={ a with tmps:=a.tmps.setIfInBounds d v})∧(∀ (a:Act) (v:Value),a.put none v=a) ∧
 (∀ (l:List Value) (i:Nat) (x:Value),l.toArray.setIfInBounds i x=(l.set i x).toArray)∧(∀ (a:Value) (l:List Value) (i:Nat) (x:Value),(a::l).set (i+1) x=a::l.set i x)∧(∀ (a:Value) (l:List Value) (x:Value),(a::l).set 0 x=x::l) :=
 ⟨fun _ _ _=>rfl,fun _ _ _ _ _=>rfl,fun _ _ _=>rfl,fun _ _=>rfl,fun _ _ _=>aH,fun _ _ _ _=>rfl,fun _ _ _=>rfl⟩
theorem sp (h:∀ v x,Mem x Lc x→(∀ j u,j∈waits o→F j=some u→v j=u)→wpQuiet P #[] (fun y=>∃ z:Later x,y=z.world) (fun b=>b=(aq a0 0 l v).put o.dst u) [o] (aq a0 0 l v)) (hk:k∉Wr∧k∉Al:=by decide) (hu:F k=some u:=by rfl) (hg:o.guard=none:=by rfl):iq P l Q a0 Wr Al F Ps Lc k o:=ja hk hu hg h
def kS (F:Nat→Option Value) (v:Nat→Value):List Nat→Prop
 | []=>True
 | j::r=>(match F j with
  | some u=>v j=u
  | none=>True)∧kS F v r
theorem Bv {F:Nat→Option Value} {v:Nat→Value}:∀ {ws:List Nat},(∀ j u,j∈ws→F j=some u→v j=u)→kS F v ws
 | [],_=>trivial
 | j::r,h=>⟨by
  cases e:F j with
  | none=>trivial
  | some u=>exact h j u (dN ..) e,Bv fun i u hi hu=>h i u (xY _ hi) hu⟩
end
end Go
namespace Go.Proofs.N0
open Go.RowKit
theorem NF.memS {S:List Nat} {w0 x:World} {R:List aW} {Lc L:List (Nat×Obj)} (h:NF S w0 x R L) (hs:Lc.Sublist L:=by repeat (first|with_reducible exact sj _|with_reducible refine List.Sublist.cons_cons _ ?_|with_reducible refine List.Sublist.cons _ ?_|with_reducible refine List.sublist_append_of_sublist_right ?_)):Mem x Lc x:=h.zi fun q hq=>hs.subset hq
end Go.Proofs.N0
namespace Go
open Go.RowKit Go.Proofs.N0
variable {n id:Nat} {Az:List (Nat×Obj)} {Rz:List aW}
section
variable {P:Program} {l:List Oper} {w0:World} {Q:Exit→Act→World→Prop} {a0:Act} {Wr Al:List Nat} {F:Nat→Option Value} {Ps:List SPred} {Lc:List (Nat×Obj)} {k:Nat} {o:Oper} {u:Value} {S:List Nat} {s0:World} {α:Type}
def tb:List (Option Value)→Nat→Option Value
 | [],_=>none
 | a::_,0=>a
 | _::r,n+1=>tb r n
def tH (v:Nat→Value):List (Nat×Value)→Prop
 | []=>True
 | e::r=>v e.1=e.2∧tH v r
def Iq (D:Nat→Bool) (v:Nat→Value) (q:Nat→Nat):List (Nat×Obj)→Prop
 | []=>True
 | e::r=>(D e.1=true→v e.1=.pointer (some ⟨q e.1,0,none⟩))∧Iq D v q r
def xz (D:Nat→Bool) (q:Nat→Nat):List (Nat×Obj)→List (Nat×Obj)→List (Nat×Obj)
 | [],L=>L
 | e::r,L=>(if D e.1=true then [(q e.1,e.2)] else [])++xz D q r L
def stA (v:Nat→Value) (q:Nat→Nat):List (Nat×Obj)→Prop
 | []=>True
 | e::r=>v e.1=.pointer (some ⟨q e.1,0,none⟩)∧stA v q r
def Lb (q:Nat→Nat):List (Nat×Obj)→List (Nat×Obj)→List (Nat×Obj)
 | [],L=>L
 | e::r,L=>(q e.1,e.2)::Lb q r L
def jW (S:List Nat) (s0:World) (eq:α→List (Nat×Value)) (al:α→List (Nat×Obj)) (R:α→List aW) (L:α→List (Nat×Obj)):SPred :=
 fun D v x=>∃ (a:α) (q:Nat→Nat),tH v (eq a)∧Iq D v q (al a)∧NF S s0 x (R a) (xz D q (al a) (L a))
abbrev kN (S:List Nat) (s0:World) (al:List (Nat×Obj)) (R:List aW) (L:List (Nat×Obj)):SPred:=jW (α:=Unit) S s0 (fun _=>[]) (fun _=>al) (fun _=>R) (fun _=>L)
variable {eq eq':α→List (Nat×Value)} {al al':α→List (Nat×Obj)} {R R':α→List aW} {L L':α→List (Nat×Obj)} {D D':Nat→Bool} {v v':Nat→Value} {q:Nat→Nat} {x:World}
theorem I0 (A M:List (Nat×Obj)):xz D q A M=A.flatMap (fun e=>if D e.1=true then [(q e.1,e.2)] else [])++M:=by
 induction A with
 | nil=>rfl
 | cons e r ih=>simp only [xz,ih,tB,E6]
theorem lH (A:List (Nat×Obj)):Iq D v q A↔∀ e∈A,D e.1=true→v e.1=.pointer (some ⟨q e.1,0,none⟩):=by
 induction A with
 | nil=>simp [Iq]
 | cons e r ih=>simp only [Iq,ih,List.forall_mem_cons]
theorem nD (A:List (Nat×Value)):tH v A↔∀ e∈A,v e.1=e.2:=by
 induction A with
 | nil=>simp [tH]
 | cons e r ih=>simp only [tH,ih,List.forall_mem_cons]
theorem Ld (A M:List (Nat×Obj)):M.Sublist (xz D q A M):=by rw [I0];exact List.sublist_append_right _ _
theorem Le (A:List (Nat×Obj)) (h:Iq D v q A) (hD:∀ e∈A,D e.1=true):stA v q A:=by
 induction A with
 | nil=>trivial
 | cons e r ih=>exact ⟨h.1 (hD e (dN ..)),ih h.2 fun e he=>hD e (xY _ he)⟩
theorem Lf (A M:List (Nat×Obj)) (hD:∀ e∈A,D e.1=true):xz D q A M=Lb q A M:=by
 induction A with
 | nil=>rfl
 | cons e r ih=>simp only [xz,Lb,hD e (dN ..),if_true,ih fun e he=>hD e (xY _ he),List.singleton_append]
theorem Qu (A M:List (Nat×Obj)) (hD:∀ e∈A,D e.1=false):xz D q A M=M:=by
 induction A with
 | nil=>rfl
 | cons e r ih=>simp only [xz,hD e (dN ..),dY,if_false,ih fun e he=>hD e (xY _ he),bG]
structure StOk (Wr Al:List Nat) (n:Nat) (Lc:List (Nat×Obj)) (i:Nat) (p:SPred):Prop where
 mem:∀ D v x,p D v x→Mem x Lc x
 later:∀ D v x y,p D v x→Below x.heap.size x y→p D v y
 turn:∀ (D D':Nat→Bool) (v v':Nat→Value) (x:World),(∀ k∈Al,k<n→D k=D' k∧(D k=true→v k=v' k))→(∀ j k,j<i→Wr[j]?=some k→v k=v' k)→p D v x→p D' v' x
def uO (Wr Al:List Nat) (n:Nat) (Lc:List (Nat×Obj)):Nat→List SPred→Prop
 | _,[]=>True
 | i,p::r=>StOk Wr Al n Lc i p∧uO Wr Al n Lc (i+1) r
theorem uO.at {n:Nat} (r:List SPred):∀ i,uO Wr Al n Lc i r→∀ j p,r[j]?=some p→StOk Wr Al n Lc (i+j) p:=by
 induction r with
 | nil=>intro i _ j p hp;simp at hp
 | cons p' r ih =>
  intro i h j p hp
  cases j with
  | zero=>simp only [List.getElem?_cons_zero,Option.some.injEq] at hp;subst hp;exact h.1
  | succ j =>
   simp only [List.getElem?_cons_succ] at hp
   have:=ih (i+1) h.2 j p hp
   rwa [Nat.add_assoc,Nat.add_comm 1 j] at this
theorem jW.ok {i:Nat} (hL:∀ a,Lc.Sublist (L a)) (hk:∀ a,(al a).map (·.1)=Al) (hl:Al.all (· < n)=true) (he:∀ a,(eq a).all (fun e=>(Wr.take i).contains e.1)=true):StOk Wr Al n Lc i (jW S s0 eq al R L):=by
 refine ⟨?_,?_,?_⟩
 ·rintro D v x ⟨a,q,_,_,h⟩;exact h.zi fun y hy=>(Ld _ _).subset ((hL a).subset hy)
 ·rintro D v x y ⟨a,q,h1,h2,h⟩ hb;exact ⟨a,q,h1,h2,h.later hb⟩
 ·rintro D D' v v' x hA hW ⟨a,q,h1,h2,h⟩;have hal:∀ e∈al a,D e.1=D' e.1∧(D e.1=true→v e.1=v' e.1):=fun e he=>by
   have hm:e.1∈Al:=by rw [←hk a];exact mG (f:=(·.1)) he
   exact hA e.1 hm (by simpa using List.all_eq_true.1 hl _ hm)
  refine ⟨a,q,?_,?_,?_⟩
  ·refine (nD _).2 fun e hm=>?_;have hc:=List.all_eq_true.1 (he a) e hm;simp only [List.contains_iff_mem] at hc;obtain ⟨j,hj⟩:=bf hc;rw [List.getElem?_take] at hj;split at hj
   ·rename_i hji;rw [←hW j e.1 hji hj];exact (nD _).1 h1 e hm
   ·cases hj
  ·refine (lH _).2 fun e hm hD=>?_;obtain ⟨h3,h4⟩:=hal e hm;have hD':=h3.trans hD;rw [←h4 hD'];exact (lH _).1 h2 e hm hD'
  ·rw [I0] at h ⊢;have:(al a).flatMap (fun e=>if D e.1=true then [(q e.1,e.2)] else [])=(al a).flatMap (fun e=>if D' e.1=true then [(q e.1,e.2)] else []):=by rw [List.flatMap_def,List.flatMap_def];congr 1;refine tD fun e hm=>?_;rw [(hal e hm).1]
   rwa [←this]
def nd:List Nat→Bool
 | []=>true
 | a::r=>!r.contains a&&nd r
theorem Y1:∀ {l:List Nat},nd l=true→l.Nodup
 | [],_=>List.nodup_nil
 | a::r,h=>by simp only [nd,gi,Bool.not_eq_true',←Bool.not_eq_true,List.contains_iff_mem] at h;exact List.nodup_cons.2 ⟨h.1,Y1 h.2⟩
theorem jW.lay (h:jW S s0 eq al R L D v x) {ob:Obj} (j:Nat) (hk:D k=false) (hi:∀ a,(al a)[j]?=some (k,ob)) (hn:∀ a,nd ((al a).map (·.1))=true) (he:∀ a,((eq a).map (·.1)).contains k=false):jW S s0 eq al R L (fun j=>D j||j==k) (fun j=>if j=k then .pointer (some ⟨x.heap.size,0,none⟩) else v j) (x.alloc ob):=by
 obtain ⟨a,q,h1,h2,h⟩:=h;refine ⟨a,fun j=>if j=k then x.heap.size else q j,(nD _).2 fun e hm=>?_,(lH _).2 fun e hm hD=>?_,?_⟩
 ·have:e.1≠k:=fun e'=>by
   have:=he a
   rw [←Bool.not_eq_true,List.contains_iff_mem] at this
   exact this (e'▸mG (f:=(·.1)) hm)
  simp only [if_neg this];exact (nD _).1 h1 e hm
 ·by_cases e':e.1=k
  ·simp only [e',if_true]
  ·simp only [if_neg e'];refine (lH _).1 h2 e hm ?_;simpa [e'] using hD
 ·obtain ⟨B,C,hs⟩:∃ B C,al a=B++(k,ob)::C:=by obtain ⟨hlt,e⟩:=List.getElem?_eq_some_iff.1 (hi a);exact ⟨(al a).take j,(al a).drop (j+1),by rw [←e,List.getElem_cons_drop,List.take_append_drop]⟩
  have hnn:=Y1 (hn a);rw [hs] at hnn h ⊢;rw [dc,jQ] at hnn;have hB:∀ e∈B,e.1≠k:=fun e hm e'=>(List.nodup_append.1 hnn).2.2 k (e'▸mG (f:=(·.1)) hm) k (dN ..) rfl;have hC:∀ e∈C,e.1≠k:=fun e hm e'=>(List.nodup_cons.1 (List.nodup_append.1 hnn).2.1).1 (e'▸mG (f:=(·.1)) hm);have hf:∀ M:List (Nat×Obj),(∀ e∈M,e.1≠k)→M.flatMap (fun e=>if (D e.1||e.1==k)=true then [(if e.1=k then x.heap.size else q e.1,e.2)] else [])=M.flatMap (fun e=>if D e.1=true then [(q e.1,e.2)] else []):=fun M hM=>by
   rw [List.flatMap_def,List.flatMap_def];congr 1;refine tD fun e hm=>?_;have e1:(e.1==k)=false:=by simpa using hM e hm
   rw [e1,pS,if_neg (hM e hm)]
  rw [I0,jO,tB] at h ⊢;rw [hf B hB,hf C hC];simp only [hk,dY,if_false,bG] at h;simp only [hk,Bool.false_or,beq_self_eq_true,if_true,List.singleton_append,E6,bQ] at h ⊢;exact (h.alloc ob).perm List.perm_middle.symm
theorem wpS (Wr Al:List Nat) (F:Nat→Option Value) (Lc:List (Nat×Obj)) {A0:List (Nat×Obj)} {R0:List aW} {L0 Lz:List (Nat×Obj)} (Ps:List SPred) (hN:NF S s0 w0 R0 L0)
 (dQ:oP P l Q a0 Wr Al F Ps Lc 0 l)
 (hend:∀ v q x,(∀ k u,k<l.length→F k=some u→v k=u)→stA v q Az→NF S s0 x Rz (Lb q Az Lz)→Q .normal (aq a0 0 l v) x)
 (DG:Ps[0]?=some (kN S s0 A0 R0 L0):=by rfl) (YT:Ps[Wr.length]?=some (kN S s0 Az Rz Lz):=by rfl)
 (hm:P.follows .mixedOrders=true:=by kernel_rfl) (hB:kz l n=true:=by kernel_rfl) (hC:chainB l Wr=true:=by kernel_rfl)
 (hok:uO Wr Al l.length Lc 0 Ps:=by
  repeat (first|exact True.intro|refine ⟨jW.ok (fun _=>by repeat (first|with_reducible exact sj _|with_reducible refine List.Sublist.cons_cons _ ?_|with_reducible refine List.Sublist.cons _ ?_|with_reducible refine List.sublist_append_of_sublist_right ?_)) (fun _=>rfl) rfl (fun _=>rfl),?_⟩))
 (hA0:A0.map (·.1)=Al:=by rfl) (hAz:Az.map (·.1)=Al:=by rfl) (hAl:Al.all (· < l.length)=true:=by rfl):(Code.region id l.toArray true).wp P Q a0 w0:=by
 have hlt:∀ k∈Al,k<l.length:=fun k hk=>by simpa using List.all_eq_true.1 hAl k hk
 refine BX (n:=n) Wr Al F Lc Ps hm hB hC (fun p hp D v x h=>?_) (fun p hp D v x y h hb=>?_) (fun i p hp D D' v v' x hD hv h=>?_) DG (fun D v hD=>?_) YT dQ (fun D v x hF hD h=>?_)
 ·exact aai
 ·exact Zb
 ·exact UQ
 ·exact a981
 ·obtain ⟨_,q,_,h2,h3⟩:=h;have hDz:∀ e∈Az,D e.1=true:=fun e he=>by
   have hm:e.1∈Al:=by rw [←hAz];exact mG (f:=(·.1)) he
   exact hD e.1 (hlt _ hm)
  rw [Lf _ _ hDz] at h3;exact hend v q x hF (Le _ h2 hDz) h3
def stM (S:List Nat) (s0:World) (M:List (Nat×Obj)):List (List (Nat×Obj)×List aW×List (Nat×Obj))→List SPred
 | []=>[]
 | e::r=>kN S s0 e.1 e.2.1 (e.2.2++M)::stM S s0 M r
def stR:List (List (Nat×Obj)×List aW×List (Nat×Obj))→List aW
 | []=>[]
 | e::_=>e.2.1
def stV:List (List (Nat×Obj)×List aW×List (Nat×Obj))→List (Nat×Obj)
 | []=>[]
 | e::_=>e.2.2
theorem Lg {M:List (Nat×Obj)} {A V:List (Nat×Obj)} {R:List aW}:∀ (st:List (List (Nat×Obj)×List aW×List (Nat×Obj))) (i:Nat),st[i]?=some (A,R,V)→(stM S s0 M st)[i]?=some (kN S s0 A R (V++M))
 | [],_,h=>by simp at h
 | e::r,0,h=>by simp only [List.getElem?_cons_zero,Option.some.injEq] at h;subst h;rfl
 | e::r,i+1,h=>by simp only [List.getElem?_cons_succ] at h;simp only [stM,List.getElem?_cons_succ];exact Lg r i h
theorem QG {n:Nat} {L:List (Nat×Obj)} (hl:Al.all (· < n)=true):∀ (st:List (List (Nat×Obj)×List aW×List (Nat×Obj))) (i:Nat),st.all (fun e=>e.1.map (·.1)==Al)=true→uO Wr Al n Lc i (stM S s0 (Lc++L) st)
 | [],_,_=>trivial
 | e::r,i,h=>by simp only [List.all_cons,gi,beq_iff_eq] at h;exact ⟨jW.ok (fun _=>(List.sublist_append_left Lc L).trans (List.sublist_append_right _ _)) (fun _=>h.1) hl (fun _=>rfl),QG hl r (i+1) h.2⟩
theorem sk (Wr Al:List Nat) (F:Nat→Option Value) (Lc L:List (Nat×Obj)) {Vz:List (Nat×Obj)} (st:List (List (Nat×Obj)×List aW×List (Nat×Obj))) (hN:NF S s0 w0 (stR st) (stV st++(Lc++L)))
 (dQ:oP P l Q a0 Wr Al F (stM S s0 (Lc++L) st) Lc 0 l)
 (hend:∀ v q x,(∀ k u,k<l.length→F k=some u→v k=u)→stA v q Az→NF S s0 x Rz (Lb q Az (Vz++(Lc++L)))→Q .normal (aq a0 0 l v) x)
 (hz:st[Wr.length]?=some (Az,Rz,Vz):=by rfl)
 (hm:P.follows .mixedOrders=true:=by kernel_rfl) (hB:kz l n=true:=by kernel_rfl) (hC:chainB l Wr=true:=by kernel_rfl)
 (hA:st.all (fun e=>e.1.map (·.1)==Al)=true:=by rfl) (hAl:Al.all (· < l.length)=true:=by rfl):(Code.region id l.toArray true).wp P Q a0 w0:=by
 have hst:∀ e∈st,e.1.map (·.1)=Al:=fun e he=>by simpa using List.all_eq_true.1 hA e he
 cases st with
 | nil=>simp at hz
 | cons e r=>exact wpS (n:=n) Wr Al F Lc (stM S s0 (Lc++L) (e::r)) (A0:=e.1) (R0:=e.2.1) (L0:=e.2.2++(Lc++L)) hN dQ hend rfl (Lg _ _ hz) hm hB hC (QG hAl _ _ hA) (hst e (dN ..)) (hst _ (IQ hz)) hAl
theorem SC:(∀ q L,Lb q [] L=L)∧(∀ q e r L,Lb q (e::r) L=(q e.1,e.2)::Lb q r L)∧(∀ (a:Nat×Obj) l m,(a::l)++m=a::(l++m))∧(∀ l:List (Nat×Obj),[]++l=l):=⟨fun _ _=>rfl,fun _ _ _ _=>rfl,fun _ _ _=>rfl,fun _=>rfl⟩
theorem SA:(∀ v q,stA v q []=True)∧(∀ v q e r,stA v q (e::r)=(v e.1=.pointer (some ⟨q e.1,0,none⟩)∧stA v q r))∧∀ p:Prop,(p∧True)=p:=⟨fun _ _=>rfl,fun _ _ _ _=>rfl,fun _=>and_true _⟩
theorem sA {o':Oper} {j:Nat} (n:Nat) (ob:Obj) 
 (ho:∀ v x,o.wp P (aq a0 0 l v) x (fun a' y=>a'=(aq a0 0 l v).put o.dst (.pointer (some ⟨x.heap.size,0,none⟩))∧y=x.alloc ob) Q:=by
  intro v x;simp only [PU];unfold Oper.wp;go_simp)
 (h:∀ (m:Nat) (p:SPred),m≤n→Ps[m]?=some p→∀ (D:Nat→Bool) (v:Nat→Value) (x:World),p D v x→D k=false→p (fun j=>D j||j==k) (fun j=>if j=k then .pointer (some ⟨x.heap.size,0,none⟩) else v j) (x.alloc ob):=by
  intro m p hm hp D v x h hk;repeat (first|omega|(rcases m with _|m;· cases hp;first|exact jW.lay h 0 hk (fun _=>rfl) (fun _=>rfl) (fun _=>rfl)|exact jW.lay h 1 hk (fun _=>rfl) (fun _=>rfl) (fun _=>rfl)|exact jW.lay h 2 hk (fun _=>rfl) (fun _=>rfl) (fun _=>rfl))))
 (hn:Wr[n]?=some j:=by rfl) (hl:l[j]?=some o':=by rfl) (hw:k∈waits o':=by decide) (hk:k∉Wr:=by decide) (hka:k∈Al:=by decide) (hu:F k=none:=by rfl) (hg:o.guard=none:=by rfl):iq P l Q a0 Wr Al F Ps Lc k o :=
 MS ob n j hk hka hu hg hn hl hw ho h
theorem sC {A A':List (Nat×Obj)} {R R':List aW} {L L':List (Nat×Obj)}
 (h:∀ D v q x,Iq D v q A→NF S s0 x R (xz D q A L)→Mem x Lc x→(∀ j,j∈waits o→D j=true)→(∀ j u,j∈waits o→F j=some u→v j=u)→o.wp P (aq a0 0 l v) x (fun a' y=>a'=(aq a0 0 l v).put o.dst u∧NF S s0 y R' (xz D q A' L')) Q)
 (hu:F k=some u∨F k=none:=by first|exact .inl rfl|exact .inr rfl) (hk:Wr[Wr.idxOf k]?=some k:=by rfl) (hka:k∉Al:=by decide) (hg:o.guard=none:=by rfl) (hp:Ps[Wr.idxOf k]?=some (kN S s0 A R L):=by rfl) (hq:Ps[Wr.idxOf k+1]?=some (kN S s0 A' R' L'):=by rfl) (hA:A.map (·.1)=Al:=by rfl) (hA':A'.map (·.1)=Al:=by rfl):iq P l Q a0 Wr Al F Ps Lc k o :=
 BZ (Wr.idxOf k) u hk hka hg hp hq (fun u' h'=>by rcases hu with e|e<;>rw [e] at h'<;>cases h';rfl) fun D v x ⟨_,q,_,h2,h3⟩ hM hW hF =>
  ⟨fun y=>NF S s0 y R' (xz D q A' L'),fun z hz=>⟨(),q,trivial,(lH _).2 fun e he hD=>by
   have hm:e.1∈Al:=by rw [←hA'];exact mG (f:=(·.1)) he
   have hne:e.1≠k:=fun e'=>hka (e'▸hm);simp only [if_neg hne];obtain ⟨e2,VR,e3⟩:=List.mem_map.1 (show e.1∈A.map (·.1) by rw [hA];exact hm);rw [←e3];exact (lH _).1 h2 e2 VR (by rw [e3];exact hD),hz⟩,h D v q x h2 h3 hM hW hF⟩
def MT (D:Nat→Bool):List Nat→Prop
 | []=>True
 | j::r=>D j=true∧MT D r
theorem QH:∀ {ws:List Nat},(∀ j,j∈ws→D j=true)→MT D ws
 | [],_=>trivial
 | j::_,h=>⟨h j (dN ..),QH fun i hi=>h i (xY _ hi)⟩
end
end Go
namespace Go.Proofs.N0
open Go.RowKit
variable {c0 c1 c2 c3 c4 c5 c6 c7 c8 c9:Value}
section
variable {S:List Nat} {w0 W:World} {R:List aW} {L:List (Nat×Obj)} {p:Nat} {st:af.Store}
theorem SF.nf (h:SF S w0 W p st L):NF S w0 W [ah p st] L:=by exact a968
theorem NF.QI (h:NF S w0 W [ah p st] L):SF S w0 W p st L:=by obtain ⟨⟨Z,hz,hS⟩,hown,Qz⟩:=h;obtain ⟨a,Z2,rfl,e1,e2⟩:=List.map_eq_cons_iff.1 hz.rs;obtain rfl:=List.map_eq_nil_iff.1 e2;have ha:=hz.res a (dN ..);rw [e1] at ha;exact ⟨⟨a.2,ha.1,fun i hi=>hS i IU,fun x hx e=>hz.ne (List.mem_flatMap.2 ⟨a,dN ..,e⟩) hx rfl⟩,ha.2,Qz,fun x hx=>⟨hz.blk x hx,hown x hx⟩,(List.nodup_append.1 hz.apart).2.1⟩
variable {B C:List (Nat×Obj)} {k:Nat} {T:TypeId}
theorem NF.DV (v0 v1:Value) (h:NF S w0 W R (B++(k,.cells #[c0,c1] T (0,0))::C)):NF S w0 ((W.setCell ⟨k,0,none⟩ v0).setCell ⟨k,1,none⟩ v1) R (B++(k,.cells #[v0,v1] T (0,0))::C):=by
 have g:=((h.ai 0 v0).ai 1 v1)
 exact Ms
theorem NF.V0 (v0 v1 v2 v3:Value) (h:NF S w0 W R (B++(k,.cells #[c0,c1,c2,c3] T (0,0))::C)):NF S w0 ((((W.setCell ⟨k,0,none⟩ v0).setCell ⟨k,1,none⟩ v1).setCell ⟨k,2,none⟩ v2).setCell ⟨k,3,none⟩ v3) R (B++(k,.cells #[v0,v1,v2,v3] T (0,0))::C):=by
 have g:=((((h.ai 0 v0).ai 1 v1).ai 2 v2).ai 3 v3)
 exact Ms
theorem NF.ou (v0 v1 v2 v3 v4 v5:Value) (h:NF S w0 W R (B++(k,.cells #[c0,c1,c2,c3,c4,c5] T (0,0))::C)):NF S w0 ((((((W.setCell ⟨k,0,none⟩ v0).setCell ⟨k,1,none⟩ v1).setCell ⟨k,2,none⟩ v2).setCell ⟨k,3,none⟩ v3).setCell ⟨k,4,none⟩ v4).setCell ⟨k,5,none⟩ v5) R (B++(k,.cells #[v0,v1,v2,v3,v4,v5] T (0,0))::C):=by
 have g:=((((((h.ai 0 v0).ai 1 v1).ai 2 v2).ai 3 v3).ai 4 v4).ai 5 v5)
 exact Ms
theorem NF.V1 (v0 v1 v2 v3 v4 v5 v6:Value) (h:NF S w0 W R (B++(k,.cells #[c0,c1,c2,c3,c4,c5,c6] T (0,0))::C)):NF S w0 (((((((W.setCell ⟨k,0,none⟩ v0).setCell ⟨k,1,none⟩ v1).setCell ⟨k,2,none⟩ v2).setCell ⟨k,3,none⟩ v3).setCell ⟨k,4,none⟩ v4).setCell ⟨k,5,none⟩ v5).setCell ⟨k,6,none⟩ v6) R (B++(k,.cells #[v0,v1,v2,v3,v4,v5,v6] T (0,0))::C):=by
 have g:=(((((((h.ai 0 v0).ai 1 v1).ai 2 v2).ai 3 v3).ai 4 v4).ai 5 v5).ai 6 v6)
 exact Ms
theorem NF.V2 (v0 v1 v2 v3 v4 v5 v6 v7 v8:Value) (h:NF S w0 W R (B++(k,.cells #[c0,c1,c2,c3,c4,c5,c6,c7,c8] T (0,0))::C)):NF S w0 (((((((((W.setCell ⟨k,0,none⟩ v0).setCell ⟨k,1,none⟩ v1).setCell ⟨k,2,none⟩ v2).setCell ⟨k,3,none⟩ v3).setCell ⟨k,4,none⟩ v4).setCell ⟨k,5,none⟩ v5).setCell ⟨k,6,none⟩ v6).setCell ⟨k,7,none⟩ v7).setCell ⟨k,8,none⟩ v8) R (B++(k,.cells #[v0,v1,v2,v3,v4,v5,v6,v7,v8] T (0,0))::C):=by
 have g:=(((((((((h.ai 0 v0).ai 1 v1).ai 2 v2).ai 3 v3).ai 4 v4).ai 5 v5).ai 6 v6).ai 7 v7).ai 8 v8)
 exact Ms
theorem NF.Lh (v0 v1 v2 v3 v4 v5 v6 v7 v8 v9:Value) (h:NF S w0 W R (B++(k,.cells #[c0,c1,c2,c3,c4,c5,c6,c7,c8,c9] T (0,0))::C)):NF S w0 ((((((((((W.setCell ⟨k,0,none⟩ v0).setCell ⟨k,1,none⟩ v1).setCell ⟨k,2,none⟩ v2).setCell ⟨k,3,none⟩ v3).setCell ⟨k,4,none⟩ v4).setCell ⟨k,5,none⟩ v5).setCell ⟨k,6,none⟩ v6).setCell ⟨k,7,none⟩ v7).setCell ⟨k,8,none⟩ v8).setCell ⟨k,9,none⟩ v9) R (B++(k,.cells #[v0,v1,v2,v3,v4,v5,v6,v7,v8,v9] T (0,0))::C):=by
 have g:=((((((((((h.ai 0 v0).ai 1 v1).ai 2 v2).ai 3 v3).ai 4 v4).ai 5 v5).ai 6 v6).ai 7 v7).ai 8 v8).ai 9 v9)
 exact Ms
theorem NF.Li {c10 c11 c12:Value} (v0 v1 v2 v3 v4 v5 v6 v7 v8 v9 v10 v11 v12:Value) (h:NF S w0 W R (B++(k,.cells #[c0,c1,c2,c3,c4,c5,c6,c7,c8,c9,c10,c11,c12] T (0,0))::C)):NF S w0 (((((((((((((W.setCell ⟨k,0,none⟩ v0).setCell ⟨k,1,none⟩ v1).setCell ⟨k,2,none⟩ v2).setCell ⟨k,3,none⟩ v3).setCell ⟨k,4,none⟩ v4).setCell ⟨k,5,none⟩ v5).setCell ⟨k,6,none⟩ v6).setCell ⟨k,7,none⟩ v7).setCell ⟨k,8,none⟩ v8).setCell ⟨k,9,none⟩ v9).setCell ⟨k,10,none⟩ v10).setCell ⟨k,11,none⟩ v11).setCell ⟨k,12,none⟩ v12) R (B++(k,.cells #[v0,v1,v2,v3,v4,v5,v6,v7,v8,v9,v10,v11,v12] T (0,0))::C):=by
 have g:=(((((((((((((h.ai 0 v0).ai 1 v1).ai 2 v2).ai 3 v3).ai 4 v4).ai 5 v5).ai 6 v6).ai 7 v7).ai 8 v8).ai 9 v9).ai 10 v10).ai 11 v11).ai 12 v12)
 exact Ms
theorem NF.qu (v0 v1 v2 v3 v4 v5 v6 v7 v8:Value) (h:NF S w0 W R (B++(k,.cells #[c0,c1,c2,c3,c4,c5,c6,c7,c8,c9] T (0,0))::C)):NF S w0 (((((((((W.setCell ⟨k,1,none⟩ v0).setCell ⟨k,2,none⟩ v1).setCell ⟨k,3,none⟩ v2).setCell ⟨k,4,none⟩ v3).setCell ⟨k,5,none⟩ v4).setCell ⟨k,6,none⟩ v5).setCell ⟨k,7,none⟩ v6).setCell ⟨k,8,none⟩ v7).setCell ⟨k,9,none⟩ v8) R (B++(k,.cells #[c0,v0,v1,v2,v3,v4,v5,v6,v7,v8] T (0,0))::C):=by
 have g:=(((((((((h.ai 1 v0).ai 2 v1).ai 3 v2).ai 4 v3).ai 5 v4).ai 6 v5).ai 7 v6).ai 8 v7).ai 9 v8)
 exact Ms
end
end Go.Proofs.N0
namespace Go
open Go.RowKit Go.Proofs.N0
variable {v:Nat→Value}
section
variable {P:Program} {l:List Oper} {w0:World} {Q:Exit→Act→World→Prop} {a0:Act} {Wr Al:List Nat} {F:Nat→Option Value} {Ps:List SPred} {Lc:List (Nat×Obj)} {k:Nat} {o:Oper} {u:Value} {S:List Nat} {s0:World} {α:Type}
theorem mo {f:FuncId} {ar:Array Value} {w:World} {q r:Ending→World→Prop} (c:Calls P f ar w q) (h:∀ e z,q e z→r e z:=by rintro e z ⟨rfl,h⟩;exact ⟨rfl,h⟩):Calls P f ar w r:=c.mono h
theorem gT (hF:∀ k u,k<l.length→F k=some u→v k=u) (j:Nat) (h1:j<l.length:=by decide) (h2:F j=some u:=by rfl):v j=u:=hF j u h1 h2
theorem qP {A:Prop} (h:A:=by
 simp only [kS,tb,waits,oO,Fu,jQ,uL,Region.binds,reduceIte] at hE;first
  | (simp only [PU,hE];go_big_quiet_step (fail);exact wpQuiet_nil rfl)
  | (have yy:=rl hM.ei;simp only [PU,hE];go_big_quiet_step (fail);exact wpQuiet_nil rfl)):A:=h
theorem sQ (h:∀ v x,Mem x Lc x→kS F v (waits o)→wpQuiet P #[] (fun y=>∃ z:Later x,y=z.world) (fun b=>b=(aq a0 0 l v).put o.dst u) [o] (aq a0 0 l v)) (hk:k∉Wr∧k∉Al:=by decide) (hu:F k=some u:=by rfl) (hg:o.guard=none:=by rfl):iq P l Q a0 Wr Al F Ps Lc k o:=ja hk hu hg fun v x hM hF=>h v x hM (Bv hF)
theorem sP (h:∀ v x,Mem x Lc x→kS F v (waits o)→wpQuiet P #[] (fun y=>∃ z:Later x,y=z.world) (fun b=>b=(aq a0 0 l v).put o.dst u) [o] (aq a0 0 l v):=by intro v x hM hE;exact qP) (hk:k∉Wr∧k∉Al:=by decide) (hu:F k=some u:=by rfl) (hg:o.guard=none:=by rfl):iq P l Q a0 Wr Al F Ps Lc k o:=sQ h hk hu hg
theorem sV (h:∀ (m:Nat) (p:SPred),Ps[m]?=some p→∀ (D:Nat→Bool) (v:Nat→Value) (x:World),p D v x→kS F v (waits o)→wpQuiet P #[] (fun y=>∃ z:Later x,y=z.world) (fun b=>b=(aq a0 0 l v).put o.dst u) [o] (aq a0 0 l v)) (hk:k∉Wr∧k∉Al:=by decide) (hu:F k=some u:=by rfl) (hg:o.guard=none:=by rfl):iq P l Q a0 Wr Al F Ps Lc k o:=zo hk hu hg fun m p hm D v x h1 hF=>h m p hm D v x h1 (Bv hF)
theorem jW.memS {eq:α→List (Nat×Value)} {al:α→List (Nat×Obj)} {R:α→List aW} {L:α→List (Nat×Obj)} {D:Nat→Bool} {x:World} (h:jW S s0 eq al R L D v x) (hL:∀ a,∀ y∈Lc,y∈L a):Mem x Lc x:=by obtain ⟨a,q,_,_,h⟩:=h;exact h.zi fun y hy=>(Ld _ _).subset (hL a y hy)
theorem sT {o':Oper} {j:Nat} (Lk:List (Nat×Obj)) (n:Nat) (h:∀ v x,Mem x Lk x→kS F v (waits o)→wpQuiet P #[] (fun y=>∃ z:Later x,y=z.world) (fun b=>b=(aq a0 0 l v).put o.dst u) [o] (aq a0 0 l v):=by intro v x hM hE;exact qP)
 (hm:∀ (m:Nat) (p:SPred),m≤n→Ps[m]?=some p→∀ (D:Nat→Bool) (v:Nat→Value) (x:World),p D v x→Mem x Lk x:=by
  intro m p hm hp D v x h;repeat (first|omega|(rcases m with _|m;· cases hp;exact jW.memS h (fun _=>by simp))))
 (hn:Wr[n]?=some j:=by rfl) (hl:l[j]?=some o':=by rfl) (hw:k∈waits o':=by decide) (hk:k∉Wr∧k∉Al:=by decide) (hu:F k=some u:=by rfl) (hg:o.guard=none:=by rfl):iq P l Q a0 Wr Al F Ps Lc k o :=
 IY Lk n j hk hu hg hn hl hw hm fun v x hM hF=>h v x hM (Bv hF)
theorem wC {A B:Prop} (k:B) (h:B→A:=by
 intro kk;refine sC ?_;intro D v q x hP h0 hM hW hF;have hE:=Bv hF;have hD:=QH hW;clear hM hF hW;simp only [kS,tb,waits,oO,Fu,jQ,uL,Region.binds,reduceIte] at hE;simp only [MT,waits,oO,Fu,jQ,uL,Region.binds,reduceIte] at hD;try simp only [Iq,hD,forall_const,and_true,true_and] at hP
 try simp only [xz,hD,if_true,bQ,bG] at h0
 simp only [PU,hE,hP,xz,hD,if_true,bQ,bG];unfold Oper.wp;go_simp;clear hD hP hE;revert D v q x;exact kk):A:=h k
theorem sS {A A':List (Nat×Obj)} {R R':List aW} {L L':List (Nat×Obj)}
 (h:∀ D v q x,Iq D v q A→NF S s0 x R (xz D q A L)→(∀ j,j∈waits o→D j=true)→(∀ j u,j∈waits o→F j=some u→v j=u)→∃ Y,NF S s0 Y R' (xz D q A' L')∧o.wp P (aq a0 0 l v) x (fun a' y=>a'=(aq a0 0 l v).put o.dst undef∧y=Y) Q)
 (hu:F k=none:=by rfl) (hk:Wr[Wr.idxOf k]?=some k:=by rfl) (hka:k∉Al:=by decide) (hg:o.guard=none:=by rfl) (hp:Ps[Wr.idxOf k]?=some (kN S s0 A R L):=by rfl) (hq:Ps[Wr.idxOf k+1]?=some (kN S s0 A' R' L'):=by rfl) (hA:A.map (·.1)=Al:=by rfl) (hA':A'.map (·.1)=Al:=by rfl):iq P l Q a0 Wr Al F Ps Lc k o :=
 sC (fun D v q x h1 h2 _ hW hF=>by
  obtain ⟨Y,h3,h4⟩:=h D v q x h1 h2 hW hF;refine Oper.wp_mono ?_ h4;rintro _ _ ⟨rfl,rfl⟩;exact ⟨rfl,h3⟩) (.inr hu) hk hka hg hp hq hA hA'
theorem wE {A:Prop} (h:A:=by unfold Oper.wp;go_simp):A:=h
theorem oN {w:World}:∀ {A B:List (Nat×Obj)},bZ w (A++B)↔bZ w A∧bZ w B
 | [],_=>by simp [bZ]
 | e::r,B=>by
  have ih:=oN (w:=w) (A:=r) (B:=B);rw [bQ];by_cases h:∃ k cs T,e=(k,.cells cs T (0,0))
  ·obtain ⟨k,cs,T,rfl⟩:=h;simp only [bZ,ih,and_assoc]
  ·rw [bZ,bZ,ih]<;>exact fun k cs T e'=>h ⟨k,cs,T,e'⟩
theorem wM {A B:Prop} (k:B) (h:B→A:=by
 intro kk;refine sS ?_;intro D v q x hP h0 hW hF;have hE:=Bv hF;have hD:=QH hW;clear hF hW;simp only [kS,tb,waits,oO,Fu,jQ,uL,Region.binds,reduceIte] at hE;simp only [MT,waits,oO,Fu,jQ,uL,Region.binds,reduceIte] at hD;try simp only [Iq,hD,forall_const,and_true,true_and] at hP
 try simp only [xz,hD,if_true,bQ,bG] at h0
 have yy:=rla (h0.iV ⟨x,Below.refl _ _⟩);simp only [PU,hE,hP,xz,hD,if_true,bQ,bG];clear hD hP hE;revert D v q x;exact kk):A:=h k
theorem qA {A B:Prop} (k:B) (h:B→A:=by
 intro kk;simp only [kS,tb,waits,oO,Fu,jQ,uL,Region.binds,reduceIte] at hE;simp only [PU,hE];exact kk):A:=h k
theorem Y2 {A:Prop} (h:A:=by
 refine wM ?_;intro D v q x h0 yy;first|exact ⟨_,NF.V0 (B:=[]) _ _ _ _ h0,wE⟩|exact ⟨_,NF.V0 (B:=[_]) _ _ _ _ h0,wE⟩|exact ⟨_,NF.V0 (B:=_) _ _ _ _ h0,wE⟩|exact ⟨_,NF.V0 (B:=[_,_]) _ _ _ _ h0,wE⟩):A:=h
theorem sW7 {A:Prop} (h:A:=by
 refine wM ?_;intro D v q x h0 yy;first|exact ⟨_,NF.V1 (B:=[]) _ _ _ _ _ _ _ h0,wE⟩|exact ⟨_,NF.V1 (B:=[_]) _ _ _ _ _ _ _ h0,wE⟩|exact ⟨_,NF.V1 (B:=_) _ _ _ _ _ _ _ h0,wE⟩|exact ⟨_,NF.V1 (B:=[_,_]) _ _ _ _ _ _ _ h0,wE⟩):A:=h
theorem sW9 {A:Prop} (h:A:=by
 refine wM ?_;intro D v q x h0 yy;first|exact ⟨_,NF.V2 (B:=[]) _ _ _ _ _ _ _ _ _ h0,wE⟩|exact ⟨_,NF.V2 (B:=[_]) _ _ _ _ _ _ _ _ _ h0,wE⟩|exact ⟨_,NF.V2 (B:=_) _ _ _ _ _ _ _ _ _ h0,wE⟩|exact ⟨_,NF.V2 (B:=[_,_]) _ _ _ _ _ _ _ _ _ h0,wE⟩):A:=h
theorem QJ {A:Prop} (h:A:=by
 refine wM ?_;intro D v q x h0 yy;first|exact ⟨_,NF.qu (B:=[]) _ _ _ _ _ _ _ _ _ h0,wE⟩|exact ⟨_,NF.qu (B:=[_]) _ _ _ _ _ _ _ _ _ h0,wE⟩|exact ⟨_,NF.qu (B:=_) _ _ _ _ _ _ _ _ _ h0,wE⟩|exact ⟨_,NF.qu (B:=[_,_]) _ _ _ _ _ _ _ _ _ h0,wE⟩):A:=h
theorem V3 {A:Prop} (h:A:=by
 refine wM ?_;intro D v q x h0 yy;first|exact ⟨_,NF.Lh (B:=[]) _ _ _ _ _ _ _ _ _ _ h0,wE⟩|exact ⟨_,NF.Lh (B:=[_]) _ _ _ _ _ _ _ _ _ _ h0,wE⟩|exact ⟨_,NF.Lh (B:=_) _ _ _ _ _ _ _ _ _ _ h0,wE⟩|exact ⟨_,NF.Lh (B:=[_,_]) _ _ _ _ _ _ _ _ _ _ h0,wE⟩):A:=h
theorem QK {A:Prop} (h:A:=by
 refine wM ?_;intro D v q x h0 yy;first|exact ⟨_,NF.Li (B:=[]) _ _ _ _ _ _ _ _ _ _ _ _ _ h0,wE⟩|exact ⟨_,NF.Li (B:=[_]) _ _ _ _ _ _ _ _ _ _ _ _ _ h0,wE⟩|exact ⟨_,NF.Li (B:=_) _ _ _ _ _ _ _ _ _ _ _ _ _ h0,wE⟩|exact ⟨_,NF.Li (B:=[_,_]) _ _ _ _ _ _ _ _ _ _ _ _ _ h0,wE⟩):A:=h
end
section
variable {P:Program} {Q:Exit→Act→World→Prop}
end
end Go
namespace Go.Proofs.N0
open Go.RowKit Go.Maps Go.ChangeMaps
variable {p:Nat} {st:af.Store} {S:List Nat} {x:Int} {t:af.Term}
theorem storeCells {w:World} {lb cap db iJ mb:Nat} {ds:List Nat} {D:DataW Unit} (h:gV w p lb cap db iJ mb st ds D) :
 (w.cell? ⟨p,0,none⟩=some (vL lb 0 (st.l.length+1) cap)∧w.cell? ⟨p,1,none⟩=some (vL db 0 (st.l.length+1) iJ)∧w.cell? ⟨p,2,none⟩=some (.map (some mb))∧w.cell? ⟨p,3,none⟩=some (vI st.most)) ∧
 w.frozen? ⟨p,0,none⟩=false∧w.frozen? ⟨p,1,none⟩=false:=by
 have:=h.box
 simp [World.cell?,World.frozen?,this,IW]
theorem kO (w:World) (h:aC w p st S) (hl:st.l.length≤1048576):Calls Tryz.prog 71 #[vP p 0] w fun e w'=>e=.returned (vI st.l.length)∧w=w':=by obtain ⟨lb,cap,db,iJ,mb,ds,D,hc,_⟩:=h;obtain ⟨⟨c0,_,_,_⟩,_⟩:=storeCells hc;clear hc;go_enter Tryz.func71,Tryz.ntmps71;go_wp2_with fail;go_ret;exact ⟨by first|rfl|simp,rfl⟩
theorem get_no (w:World) (h:aC w p st S) (hl:st.l.length≤1048576) (hx:st.has x=false):Calls Tryz.prog 41 #[vP p 0,vI x] w fun e w'=>e=.returned (.tuple #[.agg (tL),.bool false])∧Below w.heap.size w w':=by
 have hb:x<1∨(st.l.length:Int)<x:=by unfold af.Store.has at hx;rw [Bool.and_eq_false_iff,decide_eq_false_iff_not,decide_eq_false_iff_not] at hx;omega
 have HS:=Hi h;clear hx h;by_cases h1:x<1
 ·clear hb;go_enter Tryz.func41,Tryz.ntmps41;exact TH
 ·have h2:(st.l.length:Int)<x:=ax;have h3:1≤x:=ax;clear hb;have CL:=Hi fun (w':World) (hb:Below w.heap.size w w')=>kO w' (HS.out.later hb) hl;go_enter Tryz.func41,Tryz.ntmps41;go_wp2_with fail;refine (CL.out _ ((Below.refl _ _).alloc (cC _) _)).mono ?_;rintro e w1 ⟨rfl,rfl⟩;exact TH
theorem V4 {i:Nat} (w:World) (h:aC w p st S) (hl:st.l.length≤1048576) (h1:1≤i) (h2:i≤st.l.length) (ht:st.l.getD (i - 1) af.uz=t):Calls Tryz.prog 41 #[vP p 0,vI i] w fun e w'=>e=.returned (.tuple #[.agg (fH t),.bool true])∧Below w.heap.size w w':=by have HS:=Hi h;have CL:=Hi fun (w':World) (hb:Below w.heap.size w w')=>kO w' (HS.out.later hb) hl;obtain ⟨lb,cap,db,iJ,mb,ds,D,hc,_⟩:=h;obtain ⟨⟨c0,_,_,_⟩,_⟩:=storeCells hc;have hcell:=fun (j:Nat) (hj:j<6) (v:Value) (hv:(fk t)[j]?=some v)=>uS hc.row (i:=i*6+j) (v:=v) (by rw [VX h1 h2 hj,ht];exact hv);have r0:=hcell 0 ax _ rfl;have r1:=hcell 1 ax _ rfl;have r2:=hcell 2 ax _ rfl;have r3:=hcell 3 ax _ rfl;have r4:=hcell 4 ax _ rfl;have r5:=hcell 5 ax _ rfl;have hlb:=hc.lt lb aH;have hp:=hc.lt p aH;have h3:¬(i:Int)<1:=ax;simp only [Nat.add_zero] at r0;clear hc hcell h1;go_enter Tryz.func41,Tryz.ntmps41;go_wp2_with fail;refine (CL.out _ ((Below.refl _ _).alloc (cC _) _)).mono ?_;rintro e w1 ⟨rfl,rfl⟩;go_wp2_with fail;exact bodyPost_ret (v:=.tuple #[.agg (fH t),.bool true]) (by simp [results,Tryz.results41,go_sem]) rfl ⟨rfl,(Below.refl _ _).alloc (cC _) _⟩
theorem DW {b:Bool} (w:World) (h:aC w p st S) (hl:st.l.length≤1048576) (ht:st.at x=t) (hb:st.has x=b):Calls Tryz.prog 41 #[vP p 0,vI x] w fun e w'=>e=.returned (.tuple #[.agg (fH t),.bool b])∧Below w.heap.size w w':=by
 cases b with
 | false =>
  have:t=af.uz:=by rw [←ht];unfold af.Store.at;rw [hb];rfl
  subst this;exact get_no w h hl hb
 | true =>
  have hb':=hb;unfold af.Store.has at hb';rw [gi,decide_eq_true_eq,decide_eq_true_eq] at hb';obtain ⟨i,rfl⟩:=cR (show 0≤x by omega);refine V4 w h hl ax ax ?_;rw [←ht];unfold af.Store.at
  rw [hb];rfl
end Go.Proofs.N0
namespace Go.Proofs.N0
open Go.RowKit Go.Maps Go.ChangeMaps
variable {W:World} {k i:Nat} {cs:Array Value} {T:TypeId} {v:Value}
def IntRow (w:World) (v:Value) (l:List Int):Prop :=
 (l=[]∧v=.slice none 0 0)∨∃ g,v=vL g 0 l.length l.length∧w.heap[g]?=some (cl (l.map (Value.int .i64)).toArray 3)
def V5 (w:World) (l:List Int) (e:Ending) (w':World):Prop:=∃ v,e=.returned v∧IntRow w' v l∧Below w.heap.size w w'
theorem DX (w:World) (o o':Obj):((w.alloc o).alloc o').heap[w.heap.size+1]?=some o':=by
 have:=heap_alloc_new (w.alloc o) o'
 rw [World.size_alloc] at this
 exact this
theorem dI {t:af.Term} {l:List Int} (hl:af.partsOf t=l) (w:World):Calls Tryz.prog 72 #[.agg (fH t)] w (V5 w l):=by
 obtain ⟨k,s,n,a,b,c⟩:=t;first|simp only [fH]|simp only
 have hb:=fun (o o':Obj)=>((Below.refl w.heap.size w).alloc (cC _) o).alloc aH o';by_cases g1:k=3∨k=5∨k=9
 ·have hp:l=[a]:=by rw [←hl];unfold af.partsOf;rw [if_pos g1]
  subst hp;rcases g1 with rfl|rfl|rfl;all_goals
   clear hl
   go_enter Tryz.func72,Tryz.ntmps72
   go_wp2_with fail
   go_ret
   exact ⟨_,rfl,.inr ⟨_,rfl,DX _ _ _⟩,hb _ _⟩
 by_cases g2:k=4∨k=6∨k=7∨k=8∨k=11
 ·have hp:l=[a,b]:=by rw [←hl];unfold af.partsOf;rw [if_neg g1,if_pos g2]
  subst hp;rcases g2 with rfl|rfl|rfl|rfl|rfl;all_goals
   clear hl g1
   go_enter Tryz.func72,Tryz.ntmps72
   go_wp2_with fail
   go_ret
   exact ⟨_,rfl,.inr ⟨_,rfl,DX _ _ _⟩,hb _ _⟩
 by_cases g3:k=10
 ·have hp:l=[a,b,c]:=by rw [←hl];unfold af.partsOf;rw [if_neg g1,if_neg g2,if_pos g3]
  subst hp g3;clear hl g1 g2;go_enter Tryz.func72,Tryz.ntmps72;go_wp2_with fail;go_ret;exact ⟨_,rfl,.inr ⟨_,rfl,DX _ _ _⟩,hb _ _⟩
 ·have hp:l=[]:=by rw [←hl];unfold af.partsOf;rw [if_neg g1,if_neg g2,if_neg g3]
  subst hp;simp only [not_or] at g1 g2;obtain ⟨a1,a2,a3⟩:=g1;obtain ⟨b1,b2,b3,b4,b5⟩:=g2;clear hl;go_enter Tryz.func72,Tryz.ntmps72;go_wp2_with fail;go_ret;exact ⟨_,rfl,.inl ⟨rfl,rfl⟩,(Below.refl w.heap.size w).alloc (cC _) _⟩
open Go.RowKit
theorem eI {Q:World→Prop} (P:World→Prop) (hW:P W) (h:∀ W',P W'→Q W'):Q W:=h W hW
theorem rQ (h:W.heap[k]?=some (.cells cs T (0,0))):(W.setCell ⟨k,i,none⟩ v).heap[k]?=some (.cells (cs.setIfInBounds i v) T (0,0)):=by simp only [World.setCell,Array.getElem?_modify,if_pos,h];simp
theorem VT {j:Nat} {o:Obj} (hne:j≠k) (h:W.heap[j]?=some o):(W.setCell ⟨k,i,none⟩ v).heap[j]?=some o :=
 (Below.heap_setCell _ _ _ _ hne).trans h
theorem blk_is {cs':Array Value} (h:W.heap[k]?=some (.cells cs T (0,0))) (e:cs=cs'):W.heap[k]?=some (.cells cs' T (0,0)):=e▸h
theorem Qv {v0 v1 v2 v3 v4 v5:Value} (h:W.heap[k]?=some (.cells cs T (0,0))) (hs:cs.size=6) :
 ((((((W.setCell ⟨k,0,none⟩ v0).setCell ⟨k,1,none⟩ v1).setCell ⟨k,2,none⟩ v2).setCell ⟨k,3,none⟩ v3).setCell ⟨k,4,none⟩ v4).setCell ⟨k,5,none⟩ v5).heap[k]?=some (.cells #[v0,v1,v2,v3,v4,v5] T (0,0)):=by
 refine blk_is (rQ (rQ (rQ (rQ (rQ (rQ h)))))) ?_
 obtain ⟨l⟩:=cs
 match l,hs with
 | [_,_,_,_,_,_],_=>rfl
end Go.Proofs.N0
namespace Go.Proofs.N0
open Go.RowKit Go.Maps Go.ChangeMaps
variable {n:Nat} {s:List UInt8} {a b c:Int}
theorem oQ (x:Addr) (b c:Value) (w:World):(Instr.index 282 (.agg #[.pointer (some x),b,c]) (vI 0)).run Tryz.prog w=.ok (.pointer (some x)) w:=aI
theorem wm (x:Addr) (a c:Value) (w:World):(Instr.index 282 (.agg #[a,.pointer (some x),c]) (vI 1)).run Tryz.prog w=.ok (.pointer (some x)) w:=aI
theorem idx3_2 (x:Addr) (a b:Value) (w:World):(Instr.index 282 (.agg #[a,b,.pointer (some x)]) (vI 2)).run Tryz.prog w=.ok (.pointer (some x)) w:=aI
def kA (w:World) (c:Array Value) (e:Ending) (w':World):Prop:=e=.returned (.agg c)∧Below w.heap.size w w'
theorem dL {w w1:World} {o o' o'':Obj} (hb:Below (((w.alloc o).alloc o').alloc o'').heap.size (((w.alloc o).alloc o').alloc o'') w1):Below w.heap.size w w1 :=
 ((((Below.refl _ _).alloc (cC _) _).alloc aH _).alloc aR _).trans (hb.mono aR)
theorem only_1 (w:World):Calls Tryz.prog 108 #[.agg #[vI 1,vS s,vU n,vI a,vI b,vI c]] w (kA w #[vI 1,vS s,vU 0,vI 0,vI 0,vI 0]):=by
 go_enter Tryz.func108,Tryz.ntmps108;go_wp2_with fail;refine (dI (t:=⟨1,s,n,a,b,c⟩) (l:=[]) ze _).mono ?_;rintro e w1 ⟨v,rfl,hrow,hb1⟩;have HB:=Hi (dL hb1);have M:=Hi (((((Mem.start w).alloc (cl #[vI 1,vS s,vU n,vI a,vI b,vI c] 95)).alloc (cl (tL) 95)).alloc (cl #[vI 1,vS s,vU 0,vI 0,vI 0,vI 0] 95)).later hb1);simp only [World.size_alloc] at M;have K:Hid (w1.heap[w.heap.size+1]?=some (cl (tL) 95)):=Hi (M.out.get 1 rfl);have r:=xX M.out.rules;clear hb1;rcases hrow with ⟨_,rfl⟩|⟨g,rfl,hg⟩
 ·skip
  exact QM
 ·exact QM
theorem only_2 (w:World):Calls Tryz.prog 108 #[.agg #[vI 2,vS s,vU n,vI a,vI b,vI c]] w (kA w #[vI 2,.string ⟨#[]⟩,vU n,vI 0,vI 0,vI 0]):=by
 go_enter Tryz.func108,Tryz.ntmps108;go_wp2_with fail;refine (dI (t:=⟨2,s,n,a,b,c⟩) (l:=[]) ze _).mono ?_;rintro e w1 ⟨v,rfl,hrow,hb1⟩;have HB:=Hi (dL hb1);have M:=Hi (((((Mem.start w).alloc (cl #[vI 2,vS s,vU n,vI a,vI b,vI c] 95)).alloc (cl (tL) 95)).alloc (cl #[vI 2,.string ⟨#[]⟩,vU n,vI 0,vI 0,vI 0] 95)).later hb1);simp only [World.size_alloc] at M;have K:Hid (w1.heap[w.heap.size+1]?=some (cl (tL) 95)):=Hi (M.out.get 1 rfl);have r:=xX M.out.rules;clear hb1;rcases hrow with ⟨_,rfl⟩|⟨g,rfl,hg⟩
 ·skip
  exact a970
 ·exact a970
theorem only_3 (w:World):Calls Tryz.prog 108 #[.agg #[vI 3,vS s,vU n,vI a,vI b,vI c]] w (kA w #[vI 3,.string ⟨#[]⟩,vU 0,vI a,vI 0,vI 0]):=by
 go_enter Tryz.func108,Tryz.ntmps108;go_wp2_with fail;refine (dI (t:=⟨3,s,n,a,b,c⟩) (l:=[a]) ze _).mono ?_;rintro e w1 ⟨v,rfl,hrow,hb1⟩;have HB:=Hi (dL hb1);have M:=Hi (((((Mem.start w).alloc (cl #[vI 3,vS s,vU n,vI a,vI b,vI c] 95)).alloc (cl (tL) 95)).alloc (cl #[vI 3,.string ⟨#[]⟩,vU 0,vI 0,vI 0,vI 0] 95)).later hb1);simp only [World.size_alloc] at M;have K:Hid (w1.heap[w.heap.size+1]?=some (cl (tL) 95)):=Hi (M.out.get 1 rfl);have r:=xX M.out.rules;clear hb1;rcases hrow with ⟨h,_⟩|⟨g,rfl,hg⟩
 ·cases h
 have c0:w1.cell? ⟨g,0,none⟩=some (vI a):=by simp [World.cell?,hg]
 have i0:=oQ;clear hg;go_wp2_with fail;refine wp_loop_rounds 4 ?_;simp only [rounds_succ];go_wp2_with fail;simp only [rounds_succ];go_wp2_with fail;refine eI (Q:=fun W=>bodyPost _ _ _ _ _ W) (fun W=>W.heap[w.heap.size+1]?=some (cl #[vI 3,.string ⟨#[]⟩,vU 0,vI a,vI 0,vI 0] 95)∧Below w.heap.size w W) ⟨?_,?_⟩ ?_
 ·exact yf
 ·exact rH
 ·rintro W ⟨hx,hb⟩;exact bodyPost_ret (v:=.agg #[vI 3,.string ⟨#[]⟩,vU 0,vI a,vI 0,vI 0]) (by simp [results,Tryz.results108,go_sem,World.cell?,hx]) rfl ⟨rfl,hb⟩
theorem only_5 (w:World):Calls Tryz.prog 108 #[.agg #[vI 5,vS s,vU n,vI a,vI b,vI c]] w (kA w #[vI 5,.string ⟨#[]⟩,vU 0,vI a,vI 0,vI 0]):=by
 go_enter Tryz.func108,Tryz.ntmps108;go_wp2_with fail;refine (dI (t:=⟨5,s,n,a,b,c⟩) (l:=[a]) ze _).mono ?_;rintro e w1 ⟨v,rfl,hrow,hb1⟩;have HB:=Hi (dL hb1);have M:=Hi (((((Mem.start w).alloc (cl #[vI 5,vS s,vU n,vI a,vI b,vI c] 95)).alloc (cl (tL) 95)).alloc (cl #[vI 5,.string ⟨#[]⟩,vU 0,vI 0,vI 0,vI 0] 95)).later hb1);simp only [World.size_alloc] at M;have K:Hid (w1.heap[w.heap.size+1]?=some (cl (tL) 95)):=Hi (M.out.get 1 rfl);have r:=xX M.out.rules;clear hb1;rcases hrow with ⟨h,_⟩|⟨g,rfl,hg⟩
 ·cases h
 have c0:w1.cell? ⟨g,0,none⟩=some (vI a):=by simp [World.cell?,hg]
 have i0:=oQ;clear hg;go_wp2_with fail;refine wp_loop_rounds 4 ?_;simp only [rounds_succ];go_wp2_with fail;simp only [rounds_succ];go_wp2_with fail;refine eI (Q:=fun W=>bodyPost _ _ _ _ _ W) (fun W=>W.heap[w.heap.size+1]?=some (cl #[vI 5,.string ⟨#[]⟩,vU 0,vI a,vI 0,vI 0] 95)∧Below w.heap.size w W) ⟨?_,?_⟩ ?_
 ·exact yf
 ·exact rH
 ·rintro W ⟨hx,hb⟩;exact bodyPost_ret (v:=.agg #[vI 5,.string ⟨#[]⟩,vU 0,vI a,vI 0,vI 0]) (by simp [results,Tryz.results108,go_sem,World.cell?,hx]) rfl ⟨rfl,hb⟩
theorem only_9 (w:World):Calls Tryz.prog 108 #[.agg #[vI 9,vS s,vU n,vI a,vI b,vI c]] w (kA w #[vI 9,.string ⟨#[]⟩,vU n,vI a,vI 0,vI 0]):=by
 go_enter Tryz.func108,Tryz.ntmps108;go_wp2_with fail;refine (dI (t:=⟨9,s,n,a,b,c⟩) (l:=[a]) ze _).mono ?_;rintro e w1 ⟨v,rfl,hrow,hb1⟩;have HB:=Hi (dL hb1);have M:=Hi (((((Mem.start w).alloc (cl #[vI 9,vS s,vU n,vI a,vI b,vI c] 95)).alloc (cl (tL) 95)).alloc (cl #[vI 9,.string ⟨#[]⟩,vU n,vI 0,vI 0,vI 0] 95)).later hb1);simp only [World.size_alloc] at M;have K:Hid (w1.heap[w.heap.size+1]?=some (cl (tL) 95)):=Hi (M.out.get 1 rfl);have r:=xX M.out.rules;clear hb1;rcases hrow with ⟨h,_⟩|⟨g,rfl,hg⟩
 ·cases h
 have c0:w1.cell? ⟨g,0,none⟩=some (vI a):=by simp [World.cell?,hg]
 have i0:=oQ;clear hg;go_wp2_with fail;refine wp_loop_rounds 4 ?_;simp only [rounds_succ];go_wp2_with fail;simp only [rounds_succ];go_wp2_with fail;refine eI (Q:=fun W=>bodyPost _ _ _ _ _ W) (fun W=>W.heap[w.heap.size+1]?=some (cl #[vI 9,.string ⟨#[]⟩,vU n,vI a,vI 0,vI 0] 95)∧Below w.heap.size w W) ⟨?_,?_⟩ ?_
 ·exact yf
 ·exact rH
 ·rintro W ⟨hx,hb⟩;exact bodyPost_ret (v:=.agg #[vI 9,.string ⟨#[]⟩,vU n,vI a,vI 0,vI 0]) (by simp [results,Tryz.results108,go_sem,World.cell?,hx]) rfl ⟨rfl,hb⟩
theorem only_4 (w:World):Calls Tryz.prog 108 #[.agg #[vI 4,vS s,vU n,vI a,vI b,vI c]] w (kA w #[vI 4,.string ⟨#[]⟩,vU 0,vI a,vI b,vI 0]):=by
 go_enter Tryz.func108,Tryz.ntmps108;go_wp2_with fail;refine (dI (t:=⟨4,s,n,a,b,c⟩) (l:=[a,b]) ze _).mono ?_;rintro e w1 ⟨v,rfl,hrow,hb1⟩;have HB:=Hi (dL hb1);have M:=Hi (((((Mem.start w).alloc (cl #[vI 4,vS s,vU n,vI a,vI b,vI c] 95)).alloc (cl (tL) 95)).alloc (cl #[vI 4,.string ⟨#[]⟩,vU 0,vI 0,vI 0,vI 0] 95)).later hb1);simp only [World.size_alloc] at M;have K:Hid (w1.heap[w.heap.size+1]?=some (cl (tL) 95)):=Hi (M.out.get 1 rfl);have r:=xX M.out.rules;clear hb1;rcases hrow with ⟨h,_⟩|⟨g,rfl,hg⟩
 ·cases h
 have c0:w1.cell? ⟨g,0,none⟩=some (vI a):=by simp [World.cell?,hg]
 have c1:w1.cell? ⟨g,1,none⟩=some (vI b):=by simp [World.cell?,hg]
 have i0:=oQ;have i1:=wm;clear hg;go_wp2_with fail;refine wp_loop_rounds 4 ?_;simp only [rounds_succ];go_wp2_with fail;simp only [rounds_succ];go_wp2_with fail;simp only [rounds_succ];go_wp2_with fail;refine eI (Q:=fun W=>bodyPost _ _ _ _ _ W) (fun W=>W.heap[w.heap.size+1]?=some (cl #[vI 4,.string ⟨#[]⟩,vU 0,vI a,vI b,vI 0] 95)∧Below w.heap.size w W) ⟨?_,?_⟩ ?_
 ·exact yf
 ·exact rH
 ·rintro W ⟨hx,hb⟩;exact bodyPost_ret (v:=.agg #[vI 4,.string ⟨#[]⟩,vU 0,vI a,vI b,vI 0]) (by simp [results,Tryz.results108,go_sem,World.cell?,hx]) rfl ⟨rfl,hb⟩
theorem only_6 (w:World):Calls Tryz.prog 108 #[.agg #[vI 6,vS s,vU n,vI a,vI b,vI c]] w (kA w #[vI 6,.string ⟨#[]⟩,vU 0,vI a,vI b,vI 0]):=by
 go_enter Tryz.func108,Tryz.ntmps108;go_wp2_with fail;refine (dI (t:=⟨6,s,n,a,b,c⟩) (l:=[a,b]) ze _).mono ?_;rintro e w1 ⟨v,rfl,hrow,hb1⟩;have HB:=Hi (dL hb1);have M:=Hi (((((Mem.start w).alloc (cl #[vI 6,vS s,vU n,vI a,vI b,vI c] 95)).alloc (cl (tL) 95)).alloc (cl #[vI 6,.string ⟨#[]⟩,vU 0,vI 0,vI 0,vI 0] 95)).later hb1);simp only [World.size_alloc] at M;have K:Hid (w1.heap[w.heap.size+1]?=some (cl (tL) 95)):=Hi (M.out.get 1 rfl);have r:=xX M.out.rules;clear hb1;rcases hrow with ⟨h,_⟩|⟨g,rfl,hg⟩
 ·cases h
 have c0:w1.cell? ⟨g,0,none⟩=some (vI a):=by simp [World.cell?,hg]
 have c1:w1.cell? ⟨g,1,none⟩=some (vI b):=by simp [World.cell?,hg]
 have i0:=oQ;have i1:=wm;clear hg;go_wp2_with fail;refine wp_loop_rounds 4 ?_;simp only [rounds_succ];go_wp2_with fail;simp only [rounds_succ];go_wp2_with fail;simp only [rounds_succ];go_wp2_with fail;refine eI (Q:=fun W=>bodyPost _ _ _ _ _ W) (fun W=>W.heap[w.heap.size+1]?=some (cl #[vI 6,.string ⟨#[]⟩,vU 0,vI a,vI b,vI 0] 95)∧Below w.heap.size w W) ⟨?_,?_⟩ ?_
 ·exact yf
 ·exact rH
 ·rintro W ⟨hx,hb⟩;exact bodyPost_ret (v:=.agg #[vI 6,.string ⟨#[]⟩,vU 0,vI a,vI b,vI 0]) (by simp [results,Tryz.results108,go_sem,World.cell?,hx]) rfl ⟨rfl,hb⟩
theorem only_7 (w:World):Calls Tryz.prog 108 #[.agg #[vI 7,vS s,vU n,vI a,vI b,vI c]] w (kA w #[vI 7,.string ⟨#[]⟩,vU 0,vI a,vI b,vI 0]):=by
 go_enter Tryz.func108,Tryz.ntmps108;go_wp2_with fail;refine (dI (t:=⟨7,s,n,a,b,c⟩) (l:=[a,b]) ze _).mono ?_;rintro e w1 ⟨v,rfl,hrow,hb1⟩;have HB:=Hi (dL hb1);have M:=Hi (((((Mem.start w).alloc (cl #[vI 7,vS s,vU n,vI a,vI b,vI c] 95)).alloc (cl (tL) 95)).alloc (cl #[vI 7,.string ⟨#[]⟩,vU 0,vI 0,vI 0,vI 0] 95)).later hb1);simp only [World.size_alloc] at M;have K:Hid (w1.heap[w.heap.size+1]?=some (cl (tL) 95)):=Hi (M.out.get 1 rfl);have r:=xX M.out.rules;clear hb1;rcases hrow with ⟨h,_⟩|⟨g,rfl,hg⟩
 ·cases h
 have c0:w1.cell? ⟨g,0,none⟩=some (vI a):=by simp [World.cell?,hg]
 have c1:w1.cell? ⟨g,1,none⟩=some (vI b):=by simp [World.cell?,hg]
 have i0:=oQ;have i1:=wm;clear hg;go_wp2_with fail;refine wp_loop_rounds 4 ?_;simp only [rounds_succ];go_wp2_with fail;simp only [rounds_succ];go_wp2_with fail;simp only [rounds_succ];go_wp2_with fail;refine eI (Q:=fun W=>bodyPost _ _ _ _ _ W) (fun W=>W.heap[w.heap.size+1]?=some (cl #[vI 7,.string ⟨#[]⟩,vU 0,vI a,vI b,vI 0] 95)∧Below w.heap.size w W) ⟨?_,?_⟩ ?_
 ·exact yf
 ·exact rH
 ·rintro W ⟨hx,hb⟩;exact bodyPost_ret (v:=.agg #[vI 7,.string ⟨#[]⟩,vU 0,vI a,vI b,vI 0]) (by simp [results,Tryz.results108,go_sem,World.cell?,hx]) rfl ⟨rfl,hb⟩
theorem only_8 (w:World):Calls Tryz.prog 108 #[.agg #[vI 8,vS s,vU n,vI a,vI b,vI c]] w (kA w #[vI 8,.string ⟨#[]⟩,vU 0,vI a,vI b,vI 0]):=by
 go_enter Tryz.func108,Tryz.ntmps108;go_wp2_with fail;refine (dI (t:=⟨8,s,n,a,b,c⟩) (l:=[a,b]) ze _).mono ?_;rintro e w1 ⟨v,rfl,hrow,hb1⟩;have HB:=Hi (dL hb1);have M:=Hi (((((Mem.start w).alloc (cl #[vI 8,vS s,vU n,vI a,vI b,vI c] 95)).alloc (cl (tL) 95)).alloc (cl #[vI 8,.string ⟨#[]⟩,vU 0,vI 0,vI 0,vI 0] 95)).later hb1);simp only [World.size_alloc] at M;have K:Hid (w1.heap[w.heap.size+1]?=some (cl (tL) 95)):=Hi (M.out.get 1 rfl);have r:=xX M.out.rules;clear hb1;rcases hrow with ⟨h,_⟩|⟨g,rfl,hg⟩
 ·cases h
 have c0:w1.cell? ⟨g,0,none⟩=some (vI a):=by simp [World.cell?,hg]
 have c1:w1.cell? ⟨g,1,none⟩=some (vI b):=by simp [World.cell?,hg]
 have i0:=oQ;have i1:=wm;clear hg;go_wp2_with fail;refine wp_loop_rounds 4 ?_;simp only [rounds_succ];go_wp2_with fail;simp only [rounds_succ];go_wp2_with fail;simp only [rounds_succ];go_wp2_with fail;refine eI (Q:=fun W=>bodyPost _ _ _ _ _ W) (fun W=>W.heap[w.heap.size+1]?=some (cl #[vI 8,.string ⟨#[]⟩,vU 0,vI a,vI b,vI 0] 95)∧Below w.heap.size w W) ⟨?_,?_⟩ ?_
 ·exact yf
 ·exact rH
 ·rintro W ⟨hx,hb⟩;exact bodyPost_ret (v:=.agg #[vI 8,.string ⟨#[]⟩,vU 0,vI a,vI b,vI 0]) (by simp [results,Tryz.results108,go_sem,World.cell?,hx]) rfl ⟨rfl,hb⟩
theorem V6 (w:World):Calls Tryz.prog 108 #[.agg #[vI 11,vS s,vU n,vI a,vI b,vI c]] w (kA w #[vI 11,.string ⟨#[]⟩,vU 0,vI a,vI b,vI 0]):=by
 go_enter Tryz.func108,Tryz.ntmps108;go_wp2_with fail;refine (dI (t:=⟨11,s,n,a,b,c⟩) (l:=[a,b]) ze _).mono ?_;rintro e w1 ⟨v,rfl,hrow,hb1⟩;have HB:=Hi (dL hb1);have M:=Hi (((((Mem.start w).alloc (cl #[vI 11,vS s,vU n,vI a,vI b,vI c] 95)).alloc (cl (tL) 95)).alloc (cl #[vI 11,.string ⟨#[]⟩,vU 0,vI 0,vI 0,vI 0] 95)).later hb1);simp only [World.size_alloc] at M;have K:Hid (w1.heap[w.heap.size+1]?=some (cl (tL) 95)):=Hi (M.out.get 1 rfl);have r:=xX M.out.rules;clear hb1;rcases hrow with ⟨h,_⟩|⟨g,rfl,hg⟩
 ·cases h
 have c0:w1.cell? ⟨g,0,none⟩=some (vI a):=by simp [World.cell?,hg]
 have c1:w1.cell? ⟨g,1,none⟩=some (vI b):=by simp [World.cell?,hg]
 have i0:=oQ;have i1:=wm;clear hg;go_wp2_with fail;refine wp_loop_rounds 4 ?_;simp only [rounds_succ];go_wp2_with fail;simp only [rounds_succ];go_wp2_with fail;simp only [rounds_succ];go_wp2_with fail;refine eI (Q:=fun W=>bodyPost _ _ _ _ _ W) (fun W=>W.heap[w.heap.size+1]?=some (cl #[vI 11,.string ⟨#[]⟩,vU 0,vI a,vI b,vI 0] 95)∧Below w.heap.size w W) ⟨?_,?_⟩ ?_
 ·exact yf
 ·exact rH
 ·rintro W ⟨hx,hb⟩;exact bodyPost_ret (v:=.agg #[vI 11,.string ⟨#[]⟩,vU 0,vI a,vI b,vI 0]) (by simp [results,Tryz.results108,go_sem,World.cell?,hx]) rfl ⟨rfl,hb⟩
theorem V7 (w:World):Calls Tryz.prog 108 #[.agg #[vI 10,vS s,vU n,vI a,vI b,vI c]] w (kA w #[vI 10,.string ⟨#[]⟩,vU n,vI a,vI b,vI c]):=by
 go_enter Tryz.func108,Tryz.ntmps108;go_wp2_with fail;refine (dI (t:=⟨10,s,n,a,b,c⟩) (l:=[a,b,c]) ze _).mono ?_;rintro e w1 ⟨v,rfl,hrow,hb1⟩;have HB:=Hi (dL hb1);have M:=Hi (((((Mem.start w).alloc (cl #[vI 10,vS s,vU n,vI a,vI b,vI c] 95)).alloc (cl (tL) 95)).alloc (cl #[vI 10,.string ⟨#[]⟩,vU n,vI 0,vI 0,vI 0] 95)).later hb1);simp only [World.size_alloc] at M;have K:Hid (w1.heap[w.heap.size+1]?=some (cl (tL) 95)):=Hi (M.out.get 1 rfl);have r:=xX M.out.rules;clear hb1;rcases hrow with ⟨h,_⟩|⟨g,rfl,hg⟩
 ·cases h
 have c0:w1.cell? ⟨g,0,none⟩=some (vI a):=by simp [World.cell?,hg]
 have c1:w1.cell? ⟨g,1,none⟩=some (vI b):=by simp [World.cell?,hg]
 have c2:w1.cell? ⟨g,2,none⟩=some (vI c):=by simp [World.cell?,hg]
 have i0:=oQ;have i1:=wm;have i2:=idx3_2;clear hg;go_wp2_with fail;refine wp_loop_rounds 4 ?_;simp only [rounds_succ];go_wp2_with fail;simp only [rounds_succ];go_wp2_with fail;simp only [rounds_succ];go_wp2_with fail;simp only [rounds_succ];go_wp2_with fail;refine eI (Q:=fun W=>bodyPost _ _ _ _ _ W) (fun W=>W.heap[w.heap.size+1]?=some (cl #[vI 10,.string ⟨#[]⟩,vU n,vI a,vI b,vI c] 95)∧Below w.heap.size w W) ⟨?_,?_⟩ ?_
 ·exact yf
 ·exact rH
 ·rintro W ⟨hx,hb⟩;exact bodyPost_ret (v:=.agg #[vI 10,.string ⟨#[]⟩,vU n,vI a,vI b,vI c]) (by simp [results,Tryz.results108,go_sem,World.cell?,hx]) rfl ⟨rfl,hb⟩
theorem V8 {k:Int} (w:World) (h1:¬k=1) (h2:¬k=2) (h3:¬k=3) (h4:¬k=4) (h5:¬k=5) (h6:¬k=6) (h7:¬k=7) (h8:¬k=8) (h9:¬k=9) (h10:¬k=10) (h11:¬k=11):Calls Tryz.prog 108 #[.agg #[vI k,vS s,vU n,vI a,vI b,vI c]] w (kA w #[vI k,.string ⟨#[]⟩,vU 0,vI 0,vI 0,vI 0]):=by
 go_enter Tryz.func108,Tryz.ntmps108;go_wp2_with fail;refine (dI (t:=⟨k,s,n,a,b,c⟩) (l:=[]) (by simp [af.partsOf,h3,h4,h5,h6,h7,h8,h9,h10,h11]) _).mono ?_;rintro e w1 ⟨v,rfl,hrow,hb1⟩;have HB:=Hi (dL hb1);have M:=Hi (((((Mem.start w).alloc (cl #[vI k,vS s,vU n,vI a,vI b,vI c] 95)).alloc (cl (tL) 95)).alloc (cl #[vI k,.string ⟨#[]⟩,vU 0,vI 0,vI 0,vI 0] 95)).later hb1);simp only [World.size_alloc] at M;have K:Hid (w1.heap[w.heap.size+1]?=some (cl (tL) 95)):=Hi (M.out.get 1 rfl);have r:=xX M.out.rules;clear hb1;rcases hrow with ⟨_,rfl⟩|⟨g,rfl,hg⟩
 ·skip
  exact a969
 ·exact a969
theorem uT {t:af.Term} (w:World):Calls Tryz.prog 108 #[.agg (fH t)] w (kA w (#[vI (af.mj t).k,vS (af.mj t).s,vU (af.mj t).n,vI (af.mj t).a,vI (af.mj t).b,vI (af.mj t).c])):=by
 obtain ⟨k,s,n,a,b,c⟩:=t;by_cases h1:k=1
 ·subst h1;exact only_1 w
 by_cases h2:k=2
 ·subst h2;exact only_2 w
 by_cases h3:k=3
 ·subst h3;exact only_3 w
 by_cases h4:k=4
 ·subst h4;exact only_4 w
 by_cases h5:k=5
 ·subst h5;exact only_5 w
 by_cases h6:k=6
 ·subst h6;exact only_6 w
 by_cases h7:k=7
 ·subst h7;exact only_7 w
 by_cases h8:k=8
 ·subst h8;exact only_8 w
 by_cases h9:k=9
 ·subst h9;exact only_9 w
 by_cases h10:k=10
 ·subst h10;exact V7 w
 by_cases h11:k=11
 ·subst h11;exact V6 w
 have e:af.mj ⟨k,s,n,a,b,c⟩=⟨k,[],0,0,0,0⟩:=by simp [af.mj,af.partsOf,h1,h2,h3,h4,h5,h6,h7,h8,h9,h10,h11]
 rw [e];exact V8 w h1 h2 h3 h4 h5 h6 h7 h8 h9 h10 h11
end Go.Proofs.N0
