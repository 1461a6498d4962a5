/- The walk of soughlaw21.mixed: a message's packets, in another order. (Printed by wip/tools/mkpt25.py.) -/
import Derived.Test.YtnkbpigjdojakaaGreatG1
import Derived.Test.YtnkbpigjdojakaaGreatG6
import Derived.Test.YtnkbpigjdojakaaGreatG2
import Derived.Test.YtnkbpigjdojakaaGreatG9
set_option maxRecDepth 100000
set_option maxHeartbeats 6400000
namespace af
theorem Tt.swap {idx:List Nat} {m i k a b:Nat} (h:Tt idx m) (hi:idx[i]?=some a) (hk:idx[k]?=some b):Tt ((idx.set i b).set k a) m:=by
 obtain ⟨hi1,hi2⟩:=List.getElem?_eq_some_iff.1 hi;obtain ⟨jS,hk2⟩:=List.getElem?_eq_some_iff.1 hk;have hk3:(idx.set i b)[k]'(by simpa using jS)=b:=by
  rw [List.getElem_set];split
  ·rfl
  ·exact hk2
 have hp:((idx.set i b).set k a).Perm idx:=by rw [Bk];intro x;rw [List.count_set (by simpa using jS),List.count_set hi1,hk3,hi2];have h1:a=x→0<idx.count x:=fun e=>List.count_pos_iff.2 (e▸IQ hi);by_cases e1:a=x<;>by_cases e2:b=x<;>simp [e1,e2];all_goals (have:=h1 e1;omega)
 exact ⟨hp.nodup_iff.2 h.nodup,by simp [h.len],fun j hj=>h.lt j (hp.mem_iff.1 hj)⟩
end af
namespace Go.Proofs.N0
open Go.RowKit Go.Maps Go.ChangeMaps
variable {n i:Nat} {idx:List Nat}
section
variable {w0 W:World} {p b:Nat} {L:List (Nat×Obj)} {R:List aW}
def KV (w0:World) (ao:Option Addr) (n:Nat) (zf:Nat→Nat):Prop:=∀ i,i<n→∃ bb off,ao=some ⟨bb,off,none⟩∧bb<w0.heap.size∧w0.cell? ⟨bb,off+i,none⟩=some (.int .u8 (zf i:Nat))∧zf i<256
def Mix1 (w0:World) (R:List aW) (L:List (Nat×Obj)) (ga n:Nat) (en:Nat→List UInt8) (iv:Value) (wr:World):Prop :=
 ∃ (i:Nat) (idx:List Nat) (cur:Array Value),iv=vI (i:Nat)∧i≤n∧af.Tt idx n∧cur.toList.take n=Ar (idx.map en)∧NF [] w0 wr R ((ga,cl cur 9)::L)
theorem PD {cur:Array Value} {a:Nat} {en:Nat→List UInt8} (h:cur.toList.take n=Ar (idx.map en)) (hi:idx[i]?=some a) (hn:i<n):cur[i]?=some (vS (en a)):=by
 have:=congrArg (fun l=>l[i]?) h
 simp only [List.getElem?_take,if_pos hn,Ar,wB,hi,Option.map_some] at this
 rw [←tV];exact this
theorem Sb {cur:Array Value} {en:Nat→List UInt8} (h:cur.toList.take n=Ar (idx.map en)):(cur.setIfInBounds i (vS (en b))).toList.take n=Ar ((idx.set i b).map en):=by simp only [Array.toList_setIfInBounds,List.take_set,h,Ar,List.map_set,List.map_map]
def Mix2 (w0 W:World) (R:List aW) (L:List (Nat×Obj)) (k14 ga p b n:Nat) (cur:Array Value) (d0 d1 d2:Int) (Mv:Nat→af.Store) (ts:Nat→af.Pt) (gs:Nat→af.SN) (es:Nat→Nat) (ev iv:Value) (wr:World):Prop :=
 ∃ (j:Nat) (oq:Option Addr) (ol oc:Nat),iv=vI (j:Nat)∧ev=vI (es j:Nat)∧j≤n∧NF [] w0 wr (bA (.slice oq ol oc) (gs j).out::ah p (Mv j)::bK p b (ts j)::R) ((k14,cl #[vI (gs j).peer,vS (gs j).text,.bool (gs j).yes,vI (gs j).h,.slice oq ol oc,vI (gs j).code] 35)::((W.heap.size+1),cl (dK) 35)::(W.heap.size,cl #[vI d0,vI d1,vI d2] 32)::(ga,cl cur 9)::L)
theorem UJ {tS PE:Nat} {ao:Option Addr} {zf:Nat→Nat} {en:Nat→List UInt8} {d0 d1 d2:Int} {v:Value} {os:List (List UInt8)} {st0 bO:af.Store} {t0 t1:af.Pt} {g1:af.SN} {er:Nat} (h:NF [] w0 W (bA v os::ah p st0::bK p b t0::R) L) (hos:os=(List.range n).map en) (h20:n≤20) (h1:1≤n) (hB:KV w0 ao tS zf)
 (hst:∀ idx,af.Tt idx n→∃ (Mv:Nat→af.Store) (ts:Nat→af.Pt) (gs:Nat→af.SN) (es:Nat→Nat),Mv 0=st0∧ts 0=t0∧Mv n=bO∧ts n=t1∧gs n=g1∧es n=er∧es 0=5∧(∀ j,j<n→gs j=af.nJ)∧(∀ j,0<j→j<n→es j=0)∧∀ j i,idx[j]?=some i→Ih p b 5 d0 d1 (en i) (Mv j) (Mv (j+1)) (ts j) (ts (j+1)) (gs (j+1)) (es (j+1))) :
 Calls Tryz.prog 23 #[vP b 0,v,.slice ao tS PE,.agg #[vI d0,vI d1,vI d2]] W fun e w'=>∃ (oq:Option Addr) (ol oc:Nat),e=.returned (.tuple #[.agg (eM g1.peer g1.text g1.yes g1.h (.slice oq ol oc) g1.code),vI (er:Nat)])∧NF [] w0 w' (bA (.slice oq ol oc) g1.out::ah p bO::bK p b t1::bA v os::R) L:=by
 obtain ⟨fv,⟨hrow,-⟩,-⟩:=h.tell
 have hlen:os.length=n:=by rw [hos];simp
 obtain ⟨gv,cv,rfl,hc1,hc2⟩:=kX hrow ax
 have F0:=Hi (((h.alloc (cl #[vI d0,vI d1,vI d2] 32)).alloc (cl (dK) 35)).alloc (cl #[] 9))
 simp only [World.size_alloc] at F0
 obtain ⟨i9,mE,hz0,hz1,hz2⟩:=info_parts X5
 have hown:=World.ownsRow_made (base:=W.heap.size+1+1) (e:=9) (size:=1) ((W.alloc (cl #[vI d0,vI d1,vI d2] 32)).alloc (cl (dK) 35)) #[] 0 aH (pR _) rfl
 simp only [World.size_alloc] at hown
 have FA:=Hi ((h.alloc (cl #[vI d0,vI d1,vI d2] 32)).alloc (cl (dK) 35))
 obtain ⟨HB,HST,HOS⟩:=ju hB hst hos
 obtain ⟨ROW,KL⟩:∃ ROW,ROW=bA (vL gv 0 os.length cv) os:=⟨_,rfl⟩
 simp only [World.size_alloc] at FA
 rw [←KL] at F0 FA
 obtain ⟨yu,HL⟩:=hi2 KL hlen
 have hcell:∀ j u,(Ar os)[j]?=some u→(((W.alloc (cl #[vI d0,vI d1,vI d2] 32)).alloc (cl (dK) 35)).alloc (cl #[] 9)).cell? ((⟨gv,0,none⟩:Addr).add j)=some u:=fun j u hj=>by
  obtain ⟨f9,⟨hrow9,-⟩,-⟩:=(KL▸F0.out).tell;have h3:(⟨gv,0,none⟩:Addr).add j=⟨gv,j,none⟩:=by unfold Addr.add;split<;>simp_all
  rw [h3];unfold Ar at hj;rw [wB] at hj;obtain ⟨o,ho,rfl⟩:=Option.map_eq_some_iff.1 hj;exact YF hrow9 ho
 have HCE:=Hi hcell
 rw [hlen]
 clear h hrow hst hB hos KL hc1 hc2 hcell
 go_enter Tryz.func23,Tryz.ntmps23
 go_wp2_with (at_builtin;refine wpList_append_own _ rfl _ _ 27 rfl (W.heap.size+1+1) 9 i9 (.string ⟨#[]⟩) 1 16 Tryz.underlying27 mE hz0 hz1 hz2 rfl aG _ _ _ rfl hown ⟨gv,0,none⟩ n cv (Ar os) rfl ?c0 HCE.out ?c2 ?c3 ?c4 ?c5 ?_)
 case c0=>unfold Ar;simp [HL.out]
 case c2=>intro u hu;unfold Ar at hu;obtain ⟨q,_,rfl⟩:=List.mem_map.1 hu;rfl
 case c3=>unfold maxLen;omega
 case c4=>omega
 case c5=>simp
 intro v' w3 hown' hgrow' _
 have F1:=Hi (FA.out.lQ (((Below.refl _ _).alloc (cC _) _).grown hgrow' aH (fun k hk=>by simp [Value.ownBlock] at hk;simp;omega)) (by simpa using hown'))
 clear hown' hgrow' hown mE hz0 hz1 hz2 F0 FA HCE
 obtain ⟨ga,cap,cur0,rfl,hcn,-,htk0,g⟩:=F1.out.UZ ax
 rw [Nat.mul_one,HOS.out] at htk0
 have HS1:Hid (Mix1 w0 (ROW::ah p st0::bK p b t0::R) (((W.heap.size+1),cl (dK) 35)::(W.heap.size,cl #[vI d0,vI d1,vI d2] 32)::L) ga n en (vI 0) w3):=Hi ⟨0,List.range n,cur0,rfl,pR _,af.Tt.range n,htk0,g⟩
 have HCN:=Hi hcn
 clear F1 htk0 g hcn
 go_wp2_with fail
 go_loopw [11] (fun iv wr=>Mix1 w0 (ROW::ah p st0::bK p b t0::R) (((W.heap.size+1),cl (dK) 35)::(W.heap.size,cl #[vI d0,vI d1,vI d2] 32)::L) ga n en iv wr) (fun iv _=>n - (intOf iv).toNat)
 case atStart=>exact HS1.out
 case round =>
  clear HS1;obtain ⟨i,idx,cur,rfl,hin,hidx,PO,hF⟩:=hrel;by_cases hlt:i<n∧i<tS
  ·obtain ⟨hi,hio⟩:=hlt;obtain ⟨bb,off,rfl,hbb,hbc,hz⟩:=HB.out i hio;obtain ⟨k,hk⟩:∃ k,k=zf i % n:=⟨_,rfl⟩
   have hkn:k<n:=hk▸Nat.mod_lt _ ax;have hmod:((zf i:Nat):Int) % (n:Int)=(k:Int):=by rw [hk];norm_cast
   obtain ⟨a,ha⟩:∃ a,idx[i]?=some a:=⟨_,lz (by rw [hidx.len];exact hi)⟩
   obtain ⟨c,hc⟩:∃ c,idx[k]?=some c:=⟨_,lz (by rw [hidx.len];exact hkn)⟩
   have hbl:=hF.lD (x:=(ga,cl cur 9)) (dN ..);simp only at hbl;have cb:wr.cell? ⟨bb,off+i,none⟩=some (.int .u8 (zf i:Nat)):=by have h2:=hF.dZ.block bb hbb;rw [←hbc];simp only [World.cell?,h2]
   have ca:=PD PO ha hi;have cc:=PD PO hc hkn;have ci:wr.cell? ⟨ga,i,none⟩=some (vS (en a)):=by simp [World.cell?,hbl,ca]
   have ck:wr.cell? ⟨ga,k,none⟩=some (vS (en c)):=by simp [World.cell?,hbl,cc]
   have g2:=hF.set i (vS (en c));have hb2:=g2.lD (x:=(ga,_)) (dN ..);simp only at hb2;have hks:((cur.setIfInBounds i (vS (en c)))[k]?).isSome=true:=by
    rw [NG];split
    ·split<;>first|rfl|(rename_i h1 h2;subst h1;exact absurd (Array.getElem?_eq_some_iff.1 ca).1 h2)
    ·rw [cc];rfl
   have cs:((wr.setCell ⟨ga,i,none⟩ (vS (en c))).cell? ⟨ga,k,none⟩).isSome=true:=by simp only [World.cell?,hb2];exact hks
   obtain ⟨u9,cs⟩:=Option.isSome_iff_exists.1 cs;have f1:wr.frozen? ⟨ga,i,none⟩=false:=by simp [World.frozen?,hbl]
   have f2:(wr.setCell ⟨ga,i,none⟩ (vS (en c))).frozen? ⟨ga,k,none⟩=false:=by simp [World.frozen?,hb2]
   have HR:Hid (Mix1 w0 (ROW::ah p st0::bK p b t0::R) (((W.heap.size+1),cl (dK) 35)::(W.heap.size,cl #[vI d0,vI d1,vI d2] 32)::L) ga n en (vI ((i:Int)+1)) ((wr.setCell ⟨ga,i,none⟩ (vS (en c))).setCell ⟨ga,k,none⟩ (vS (en a)))):=Hi ⟨i+1,(idx.set i c).set k a,_,ym,ax,hidx.swap ha hc,Sb (Sb PO),g2.set k _⟩;have e1:decide ((i:Int)<(tS:Int))=true:=aR;have e2:decide ((i:Int)<(n:Int))=true:=aR;have e3:((n:Nat):Int)≠0:=ax;have e4:(i:Int)<(tS:Int):=ax;have e5:(i:Int)<(n:Int):=ax;have e6:(k:Int)<(n:Int):=ax;clear hF hidx PO hbl g2 hb2 hks ha hc ca cc hbc hbb hk;exact Hz
  ·have hd:¬i<tS∨(i<tS∧¬i<n):=ax;obtain ⟨Mv,ts,gs,es,hs0,ht0,hsn,htn,hgn,hen,he0,hz,hze,hstep⟩:=HST.out idx hidx;obtain ⟨k14,hk14⟩:∃ k,k=wr.heap.size:=⟨_,rfl⟩
   have F3:=Hi (hF.alloc (cl (dK) 35));have F3:=Hi ((F3.out.up 2|>.up 2).PN 3|>.PN 3|>.PN 2);rw [←hk14] at F3;have HK:=Hi hk14;have Wc:Hid (Mix2 w0 W (ROW::R) L k14 ga p b n cur d0 d1 d2 Mv ts gs es (vI 5) (vI 0) (wr.alloc (cl (dK) 35))):=Hi ⟨0,none,0,0,rfl,by rw [he0];rfl,pR _,by rw [hz 0 (by omega),hs0,ht0];exact F3.out.lQ (Below.refl _ _) (World.ownsRow_nil _ _ _ _)⟩;obtain ⟨HSN,HTN,HGN,HEN,HZ,HZE,HSTEP,HTK,Xf⟩:=hi9 hsn htn hgn hen hz hze hstep PO hidx.len;clear hF hidx PO hin hlt hs0 ht0 hsn htn hgn hen he0 hz hze hstep HST HB;rcases hd with e1|⟨e1,e2⟩
   all_goals (
    go_wp2_with fail
    rewrite [←HK.out]
    clear hk14 HK F3
    go_loopw [15,16] (fun ev iv wr=>Mix2 w0 W (ROW::R) L k14 ga p b n cur d0 d1 d2 Mv ts gs es ev iv wr) (fun _ iv _=>n - (intOf iv).toNat)
    case atStart=>exact Wc.out
    case round =>
     clear Wc;obtain ⟨j,oq,ol,oc,rfl,rfl,hjn,hF⟩:=hrel;by_cases hlt:j<n
     ·have hj20:j<20:=ax;have hw1:(j:Int)<(n:Int):=ax;have hw2:(0:Int)≤(j:Int):=ax;obtain ⟨i,hi⟩:∃ i,idx[j]?=some i:=⟨_,lz (by rw [Xf.out];exact hlt)⟩
      obtain ⟨st9,PB⟩:∃ s,Mv (j+1)=s:=⟨_,rfl⟩
      obtain ⟨t9,Z5⟩:∃ s,ts (j+1)=s:=⟨_,rfl⟩
      obtain ⟨g9,Zk⟩:∃ s,gs (j+1)=s:=⟨_,rfl⟩
      obtain ⟨U7,PC⟩:∃ s,es (j+1)=s:=⟨_,rfl⟩
      have hct:=HSTEP.out j i hi;rw [PB,Z5,Zk,PC] at hct;obtain ⟨pk,hpk⟩:∃ pk,pk=en i:=⟨_,rfl⟩
      have hcj:=PD HTK.out hi hlt;rw [←hpk] at hct hcj;have CT:Hid (∀ (S:List Nat) (w0 W:World) (R:List aW) (L:List (Nat×Obj)),NF S w0 W (ah p (Mv j)::bK p b (ts j)::R) L→Calls Tryz.prog 19 #[vP b 0,vI 0,vS pk,vU 5,.agg #[vI d0,vI d1]] W fun e w'=>∃ (oq:Option Addr) (ol oc:Nat),e=.returned (.tuple #[.agg (eM g9.peer g9.text g9.yes g9.h (.slice oq ol oc) g9.code),vI U7])∧NF S w0 w' (bA (.slice oq ol oc) g9.out::ah p st9::bK p b t9::R) L):=Hi fun S w0 W R L h=>cI.slices (hct S w0 W R L h);have PKL:∀ {S:List Nat} {w0 x:World} {A:List aW} {L:List (Nat×Obj)},NF S w0 x A L→(ga,cl cur 9)∈L→∀ z:Later x,z.world.cell? ⟨ga,j,none⟩=some (vS pk):=fun {S w0 x A L} hx hm z=>by have hb:=(hx.later z.below).lD hm;simp only at hb;simp [World.cell?,hb,hcj]
      have hz:=HZ.out j hlt;obtain ⟨f9,⟨bE,-⟩,-⟩:=hF.tell;obtain ⟨a9,c9,he⟩:=gl bE;rw [hz] at he;have hl0:ol=0:=by injection he
      subst hl0;rw [hz] at hF;have F1:Hid (NF [] w0 wr (bA (.slice oq 0 oc) []::ah p (Mv j)::bK p b (ts j)::ROW::R) ((k14,cl #[vI 0,.string ⟨#[]⟩,.bool false,vI 0,.slice oq 0 oc,vI 0] 35)::((W.heap.size+1),cl (dK) 35)::(W.heap.size,cl #[vI d0,vI d1,vI d2] 32)::(ga,cl cur 9)::L)):=Hi hF;have F2:=Hi (F1.out.lA (A:=[_]));have hd:¬0<j∨(0<j∧(((es j:Nat):Int) != 0)=false):=by
       by_cases h:0<j
       ·exact .inr ⟨h,by rw [HZE.out j h hlt];rfl⟩
       ·exact .inl h
      obtain ⟨HS9,HT9,HG9,HE9⟩:=hi4 PB Z5 Zk PC;clear hF hct hi hpk PB Z5 Zk PC hz bE he hcj;have r:=rl F1.out.mem.rules;rcases hd with e3|⟨e3,e4⟩
      all_goals (
       go_wp2_with fail
       clear r
       refine XK (n:=104) [10,11,12,14] [] (tb [vP b 0,vL ga 0 n cap,vI (j:Nat),vP ga j,vS pk,vP W.heap.size 0,vI d0,vP W.heap.size 1,vI d1,some (.agg #[vI d0,vI d1]),none,none,none,vI U7,none,vI U7]) (((W.heap.size+1),cl (dK) 35)::(W.heap.size,cl #[vI d0,vI d1,vI d2] 32)::[]) [kN [] w0 [] (ah p (Mv j)::bK p b (ts j)::ROW::R) ((k14,cl #[vI 0,.string ⟨#[]⟩,.bool false,vI 0,.slice oq 0 oc,vI 0] 35)::((W.heap.size+1),cl (dK) 35)::(W.heap.size,cl #[vI d0,vI d1,vI d2] 32)::(ga,cl cur 9)::L),
        jW (α:=Option Addr×Nat×Nat×Unit) [] w0 (fun ch=>[(10,.tuple #[.agg (eM g9.peer g9.text g9.yes g9.h (.slice ch.1 ch.2.1 ch.2.2.1) g9.code),vI U7])]) (fun _=>[]) (fun ch=>bA (.slice ch.1 ch.2.1 ch.2.2.1) g9.out::ah p st9::bK p b t9::ROW::R) (fun _=>(k14,cl #[vI 0,.string ⟨#[]⟩,.bool false,vI 0,.slice oq 0 oc,vI 0] 35)::((W.heap.size+1),cl (dK) 35)::(W.heap.size,cl #[vI d0,vI d1,vI d2] 32)::(ga,cl cur 9)::L),
        jW (α:=Option Addr×Nat×Nat×Unit) [] w0 (fun ch=>[(10,.tuple #[.agg (eM g9.peer g9.text g9.yes g9.h (.slice ch.1 ch.2.1 ch.2.2.1) g9.code),vI U7]),(11,.tuple #[.agg (eM g9.peer g9.text g9.yes g9.h (.slice ch.1 ch.2.1 ch.2.2.1) g9.code),vI U7])]) (fun _=>[]) (fun ch=>bA (.slice ch.1 ch.2.1 ch.2.2.1) g9.out::ah p st9::bK p b t9::ROW::R) (fun _=>(k14,cl #[vI 0,.string ⟨#[]⟩,.bool false,vI 0,.slice oq 0 oc,vI 0] 35)::((W.heap.size+1),cl (dK) 35)::(W.heap.size,cl #[vI d0,vI d1,vI d2] 32)::(ga,cl cur 9)::L),
        jW (α:=Option Addr×Nat×Nat×Unit) [] w0 (fun ch=>[(10,.tuple #[.agg (eM g9.peer g9.text g9.yes g9.h (.slice ch.1 ch.2.1 ch.2.2.1) g9.code),vI U7]),(11,.tuple #[.agg (eM g9.peer g9.text g9.yes g9.h (.slice ch.1 ch.2.1 ch.2.2.1) g9.code),vI U7]),(12,.agg (eM g9.peer g9.text g9.yes g9.h (.slice ch.1 ch.2.1 ch.2.2.1) g9.code))]) (fun _=>[]) (fun ch=>bA (.slice ch.1 ch.2.1 ch.2.2.1) g9.out::ah p st9::bK p b t9::ROW::R) (fun _=>(k14,cl #[vI 0,.string ⟨#[]⟩,.bool false,vI 0,.slice oq 0 oc,vI 0] 35)::((W.heap.size+1),cl (dK) 35)::(W.heap.size,cl #[vI d0,vI d1,vI d2] 32)::(ga,cl cur 9)::L),
        jW (α:=Option Addr×Nat×Nat×Unit) [] w0 (fun ch=>[(10,.tuple #[.agg (eM g9.peer g9.text g9.yes g9.h (.slice ch.1 ch.2.1 ch.2.2.1) g9.code),vI U7]),(11,.tuple #[.agg (eM g9.peer g9.text g9.yes g9.h (.slice ch.1 ch.2.1 ch.2.2.1) g9.code),vI U7]),(12,.agg (eM g9.peer g9.text g9.yes g9.h (.slice ch.1 ch.2.1 ch.2.2.1) g9.code))]) (fun _=>[]) (fun ch=>bA (.slice ch.1 ch.2.1 ch.2.2.1) g9.out::ah p st9::bK p b t9::ROW::R) (fun ch=>(k14,cl (eM g9.peer g9.text g9.yes g9.h (.slice ch.1 ch.2.1 ch.2.2.1) g9.code) 35)::((W.heap.size+1),cl (dK) 35)::(W.heap.size,cl #[vI d0,vI d1,vI d2] 32)::(ga,cl cur 9)::L)] (F2.out) ⟨sP,sP,sP,sP,?_,sP,sP,sP,sP,sP,?_,sY,sY,sE 1,?_,sP,trivial⟩ ?_
       ·refine sV ?_;intro m p hm D v x h hE;have yp:∀ z:Later x,z.world.cell? ⟨ga,j,none⟩=some (vS pk):=by
         rcases m with _|_|_|_|_|m
         iterate 5 (cases hm;obtain ⟨_,qq,_,_,h0⟩:=h;exact PKL h0 (by simp [xz]))
         simp [stM] at hm
        exact qP
       ·exact Y4
       ·exact QT
       ·intro v qq x ch hF hS hA h
        obtain ⟨q9,l9,c9,_⟩:=ch
        simp only [tH,and_true] at hS
        simp only [SC] at h
        have F3:=Hi h
        simp only [PU,bF,Nat.reduceAdd,gT hF 15,hS]
        clear hF hS hA h
        have HR:Hid (Mix2 w0 W (ROW::R) L k14 ga p b n cur d0 d1 d2 Mv ts gs es (vI U7) (vI ((j:Int)+1)) x):=Hi ⟨j+1,q9,l9,c9,ym,by rw [HE9.out],ax,Ui⟩
        clear F3 F2 F1
        go_wp2_with fail
        go_roundw
        case rel=>exact HR.out
        case measure=>simp [intOf];omega)
     ·have YE:j=n:=ax;rw [YE,HSN.out,HTN.out,HGN.out] at hF;rw [YE,HEN.out];have hjn3:¬n<n:=ax;clear YE hlt hjn;have F1:=Hi hF;have F2:=Hi (hF.PN 1);have F3:=Hi (NF.ou (B:=[]) (vI g1.peer) (vS g1.text) (.bool g1.yes) (vI g1.h) (.slice oq ol oc) (vI g1.code) F2.out);simp only [bG] at F3;have nB:=Hi (F3.out.sub (L':=L) ((zq _ _).trans ((zq _ _).trans ((zq _ _).trans (zq _ _)))));rw [yu.out,HL.out] at nB;have r:=rl F1.out.mem.rules;have r3:=rl F3.out.mem.rules;clear hF F2;go_wp2_with fail;exact bodyPost_ret (v:=.tuple #[.agg (eM g1.peer g1.text g1.yes g1.h (.slice oq ol oc) g1.code),vI (er:Nat)]) (by simp [results,Tryz.results23,go_sem,r3]) rfl ⟨oq,ol,oc,rfl,nB.out⟩)
end
end Go.Proofs.N0
