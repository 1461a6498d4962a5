/- Texts YtnkbpigjdojakaaGreatMac0 .. YtnkbpigjdojakaaGreatSpCut3, joined. What they prove: the contracts of the functions that the law reaches, and plain law. -/
import Derived.BigQuiet
import Derived.Below
import Derived.Lib.Hide
import Derived.WalkKit
import Derived.OpenShut
import Derived.Lib.BitFns
import Derived.Attr
import Derived.RangeFuncNested
import Derived.RangeFuncBound
import Derived.RangeFuncCalls
import Derived.RangeFuncLeaves
import Derived.Test.YtnkbpigjdojakaaGreatRows
import Derived.Shelf.Abstract
import Derived.Shelf.RegionOpen
import Derived.OwnWalkIn
import Derived.TacticsInMore
import Derived.LoopNIn
import Derived.LoopIn
import Derived.RangeFuncBox
import Derived.Maps.AppendAt
import Derived.OneCell
import Derived.Lib.ConvBytes
import Derived.Lib.SmallJoins
set_option maxRecDepth 100000
set_option maxHeartbeats 6400000
theorem cC:type_of% @Nat.le_refl:=@Nat.le_refl
theorem Io:type_of% @List.mem_append:=@List.mem_append
theorem rZ:type_of% @List.mem_singleton:=@List.mem_singleton
theorem E5:type_of% @List.length_append:=@List.length_append
theorem pR:type_of% @Nat.zero_le:=@Nat.zero_le
theorem gi:type_of% @Bool.and_eq_true:=@Bool.and_eq_true
theorem ux:type_of% @List.getD_eq_getElem?_getD:=@List.getD_eq_getElem?_getD
theorem lz:type_of% @List.getElem?_eq_getElem:=@List.getElem?_eq_getElem
theorem KX:type_of% @List.getElem_mem:=@List.getElem_mem
theorem E6:type_of% @List.append_assoc:=@List.append_assoc
theorem bQ:type_of% @List.cons_append:=@List.cons_append
theorem bG:type_of% @List.nil_append:=@List.nil_append
theorem IG:type_of% @Int.toNat_natCast:=@Int.toNat_natCast
theorem sg:type_of% @Ne.symm:=@Ne.symm
theorem pS:type_of% @Bool.or_false:=@Bool.or_false
theorem bF:type_of% @Nat.zero_add:=@Nat.zero_add
theorem Bk:type_of% @List.perm_iff_count:=@List.perm_iff_count
theorem Dr:type_of% @Nat.eq_zero_or_pos:=@Nat.eq_zero_or_pos
theorem qg:type_of% @List.size_toArray:=@List.size_toArray
theorem yQ:type_of% @List.length_cons:=@List.length_cons
theorem Ds:type_of% @Nat.lt_or_ge:=@Nat.lt_or_ge
theorem uy:type_of% @Option.getD_some:=@Option.getD_some
theorem jO:type_of% @List.flatMap_append:=@List.flatMap_append
theorem Fc:type_of% @Nat.le_trans:=@Nat.le_trans
theorem cR:type_of% @Int.eq_ofNat_of_zero_le:=@Int.eq_ofNat_of_zero_le
variable {A:Prop}
theorem ax (h:A:=by omega):A:=h
theorem aG (h:A:=by decide):A:=h
theorem aR (h:A:=by simp;omega):A:=h
theorem aH (h:A:=by simp):A:=h
theorem c94 (h:A:=by simp only;omega):A:=h
theorem c95 (h:A:=by rw [Nat.pow_succ] at hf;omega):A:=h
theorem Sa (h:A:=by
 refine h1 f ?_;rcases mh k with ⟨_,e⟩|⟨_,e⟩|⟨_,e⟩|⟨_,e⟩|⟨_,_,_,_,e⟩<;>rw [e] at h
 ·simp [h]
 ·simp [h]
 ·simp [h]
 ·simp [h]
 ·simp at h):A:=h
theorem KY (h:A:=by unfold maxLen;omega):A:=h
theorem SZ (h:A:=by
 exact ⟨VJ.next (hJ.cell _ _ _ hJ3) HN.out HQ.out HR.out HH.out.1 HH.out.2 hne (by omega) (by omega) (by omega) (by intro hx;first|rfl|omega),by simp [intOf];have:=HN.out;omega⟩):A:=h
theorem Y7 (h:A:=by
 rcases hown'.2 with ⟨_,h0⟩|⟨g',cap',_,h,_⟩
 ·omega
 ·exact ⟨g',cap',h⟩):A:=h
theorem aI (h:A:=by kernel_rfl):A:=h
theorem Gl (h:A:=by
 clear h;go_enter Tryz.func67,Tryz.ntmps67;go_wp2;go_ret2;exact ⟨rfl,(Below.refl _ _).alloc (cC _) _⟩):A:=h
namespace Go
open Go.RowKit
@[match_pattern] abbrev vI (n:Int):Value:=.int .i64 n
@[match_pattern] abbrev vU (n:Int):Value:=.int .u64 n
@[match_pattern] abbrev vP (b k:Nat):Value:=.pointer (some ⟨b,k,none⟩)
@[match_pattern] abbrev vL (b k n c:Nat):Value:=.slice (some ⟨b,k,none⟩) n c
abbrev vS (s:List UInt8):Value:=.string ⟨s.toArray⟩
@[match_pattern] abbrev cl (a:Array Value) (T:TypeId):Obj:=.cells a T (0,0)
theorem Hi {p:Prop} (h:p):Hid p:=h
theorem hi2 {A B:Prop} (a:A) (b:B):Hid A∧Hid B:=⟨a,b⟩
theorem ju {A B C:Prop} (a:A) (b:B) (c:C):Hid A∧Hid B∧Hid C:=⟨a,b,c⟩
theorem hi4 {A B C D:Prop} (a:A) (b:B) (c:C) (d:D):Hid A∧Hid B∧Hid C∧Hid D:=⟨a,b,c,d⟩
theorem vT {A B C D E:Prop} (a:A) (b:B) (c:C) (d:D) (e:E):Hid A∧Hid B∧Hid C∧Hid D∧Hid E:=⟨a,b,c,d,e⟩
theorem Vn {A B C D E F:Prop} (a:A) (b:B) (c:C) (d:D) (e:E) (f:F):Hid A∧Hid B∧Hid C∧Hid D∧Hid E∧Hid F:=⟨a,b,c,d,e,f⟩
theorem PL {A B C D E F G:Prop} (a:A) (b:B) (c:C) (d:D) (e:E) (f:F) (g:G):Hid A∧Hid B∧Hid C∧Hid D∧Hid E∧Hid F∧Hid G:=⟨a,b,c,d,e,f,g⟩
theorem hi8 {A B C D E F G I:Prop} (a:A) (b:B) (c:C) (d:D) (e:E) (f:F) (g:G) (i:I):Hid A∧Hid B∧Hid C∧Hid D∧Hid E∧Hid F∧Hid G∧Hid I:=⟨a,b,c,d,e,f,g,i⟩
theorem hi9 {A B C D E F G I J:Prop} (a:A) (b:B) (c:C) (d:D) (e:E) (f:F) (g:G) (i:I) (j:J):Hid A∧Hid B∧Hid C∧Hid D∧Hid E∧Hid F∧Hid G∧Hid I∧Hid J:=⟨a,b,c,d,e,f,g,i,j⟩
end Go
namespace Go.Proofs.N0
open Go.RowKit
theorem gH {a b:Bool} (h:a=b):Ending.returned (.bool a)=.returned (.bool b):=by rw [h]
theorem VK {a b:ByteArray} (h:a=b):Ending.returned (.string a)=.returned (.string b):=by rw [h]
theorem sF (s:ByteArray):(⟨s.data.toList.toArray⟩:ByteArray)=s:=by cases s;rfl
theorem vV {a b c:World} (h:Below a.heap.size a b) (k:Below b.heap.size b c):Below a.heap.size a c:=h.trans (k.mono h.size)
theorem extract_eq (s:ByteArray) (p n:Nat):s.extract p (p+n)=⟨((s.data.toList.drop p).take n).toArray⟩:=by apply ByteArray.ext;apply Array.ext';simp [List.take_drop]
theorem KZ (l:List UInt8):(⟨l.toArray⟩:ByteArray).size=l.length:=rfl
theorem wf_u64 {n:Int} (h:(Lit.int .u64 n).wf=true):∃ m:Nat,n=m∧m<18446744073709551616:=by
 have:=bounds_u64 h
 exact ⟨n.toNat,ax,ax⟩
end Go.Proofs.N0
namespace af
variable {k a b x:Int} {n:Nat} {s:List UInt8}
structure Term where
 k:Int
 s:List UInt8
 n:Nat
 a:Int
 b:Int
 c:Int
deriving DecidableEq
def uz:Term:=⟨0,[],0,0,0,0⟩
def partsOf (t:Term):List Int :=
 if t.k=3∨t.k=5∨t.k=9 then [t.a]
 else if t.k=4∨t.k=6∨t.k=7∨t.k=8∨t.k=11 then [t.a,t.b]
 else if t.k=10 then [t.a,t.b,t.c] else []
def mj (t:Term):Term :=
 ⟨t.k,if t.k=1 then t.s else [],if t.k=2∨t.k=9∨t.k=10 then t.n else 0,(partsOf t).getD 0 0,(partsOf t).getD 1 0,(partsOf t).getD 2 0⟩
structure Store where
 l:List Term
 most:Nat
deriving DecidableEq
def mayT (t:Term):Bool:=decide (1≤t.k)&&decide (t.k<12)&&decide (t=mj t)&&decide (t.s.length≤1000)&&!(decide (t.k=4)&&decide (t.b<t.a))
def Store.may (st:Store) (t:Term):Bool:=mayT t&&(partsOf t).all fun p=>decide (1≤p)&&decide (p≤st.l.length)
def Store.find (st:Store) (t:Term):Option Nat:=st.l.findIdx? fun x=>decide (x=t)
def Store.put (st:Store) (t:Term):Store×Nat×Nat :=
 if st.may t=false then (st,0,1)
 else match st.find t with
  | some i=>(st,i+1,0)
  | none=>if st.most≤st.l.length then (st,0,4) else (⟨st.l++[t],st.most⟩,st.l.length+1,0)
def Store.has (st:Store) (x:Int):Bool:=decide (1≤x)&&decide (x≤st.l.length)
def Store.at (st:Store) (x:Int):Term:=if st.has x=true then st.l.getD (x.toNat - 1) uz else uz
structure Term.Wf (t:Term):Prop where
 k:-9223372036854775808≤t.k∧t.k≤9223372036854775807
 a:-9223372036854775808≤t.a∧t.a≤9223372036854775807
 b:-9223372036854775808≤t.b∧t.b≤9223372036854775807
 c:-9223372036854775808≤t.c∧t.c≤9223372036854775807
 n:t.n<18446744073709551616
 s:t.s.length≤9223372036854775807
structure Store.Ok (st:Store):Prop where
 most:st.most≤1048576
 len:st.l.length≤st.most
 wf:∀ t∈st.l,t.Wf
 may:∀ i (h:i<st.l.length),(⟨st.l.take i,st.most⟩:Store).may st.l[i]=true
 each:st.l.Nodup
theorem xw (t:Term):(partsOf t).length≤3:=by
 unfold partsOf;split
 ·simp
 ·split
  ·simp
  ·split<;>simp
theorem Qd:uz.Wf:=⟨aG,aG,aG,aG,aG,aG⟩
theorem Store.Ok.put {st:Store} (h:st.Ok) {t:Term} (ht:t.Wf):(st.put t).1.Ok:=by
 unfold Store.put;split
 ·exact h
 ·rename_i hm;split
  ·exact h
  ·rename_i hf;split
   ·exact h
   ·rename_i hl;have hn:t∉st.l:=fun hin=>by
     have:=List.findIdx?_eq_none_iff.1 hf t hin
     simp at this
    refine ⟨h.most,aR,?_,?_,?_⟩
    ·intro u hu;simp only [Io,rZ] at hu;rcases hu with hu|rfl
     ·exact h.wf u hu
     ·exact ht
    ·intro i hi;simp only [E5,List.length_singleton] at hi;by_cases e:i<st.l.length
     ·have:=h.may i e
      simp only [List.take_append_of_le_length (Nat.le_of_lt e),List.getElem_append_left e]
      exact this
     ·obtain rfl:i=st.l.length:=ax;simp only [List.take_append_of_le_length (cC _),List.take_length];simpa using hm
    ·simp only;rw [List.nodup_append];refine ⟨h.each,aH,?_⟩;rintro a ha b hb e;simp only [rZ] at hb;subst hb e;exact hn ha
def Store.aZ (st:Store) (s:List UInt8):Store×Nat×Nat:=st.put ⟨1,s,0,0,0,0⟩
def kQ (st:Store) (x:Int):Store×Nat×Nat:=st.put ⟨3,[],0,x,0,0⟩
def kI (st:Store) (x p:Int):Store×Nat×Nat :=
 if st.has x=false∨(st.at p).k≠3 then (st,0,1)
 else if (st.at p).a<x then st.put ⟨4,[],0,(st.at p).a,x,0⟩ else st.put ⟨4,[],0,x,(st.at p).a,0⟩
def jY (st:Store) (x:Int):Store×Nat×Nat:=st.put ⟨5,[],0,x,0,0⟩
def Store.Dt (st:Store) (t u:Term):Store×Nat×Nat×Nat :=
 if (st.put t).2.2≠0 then ((st.put t).1,0,0,(st.put t).2.2)
 else if ((st.put t).1.put u).2.2≠0 then (((st.put t).1.put u).1,0,0,((st.put t).1.put u).2.2)
 else (((st.put t).1.put u).1,(st.put t).2.1,((st.put t).1.put u).2.1,0)
def eZ (st:Store) (p d:Int):Store×Nat×Nat×Nat :=
 if (st.at p).k≠5∨st.has d=false then (st,0,0,1) else st.Dt ⟨6,[],0,(st.at p).a,d,0⟩ ⟨7,[],0,(st.at p).a,d,0⟩
def kJ (st:Store) (x b:Int):Store×Nat×Nat :=
 if st.has x=false∨st.has b=false then (st,0,1)
 else if (st.at b).k≠6∨(st.at b).a≠x then (st,0,10) else st.put ⟨7,[],0,x,(st.at b).b,0⟩
def cJ (st:Store) (a b:Int):Store×Nat×Nat:=st.put ⟨8,[],0,a,b,0⟩
def bV (st:Store) (key:Int) (n:Nat):Store×Nat×Nat:=st.put ⟨9,[],n,key,0,0⟩
def fG (st:Store) (key x:Int):Store×Nat×Nat×Nat :=
 if (cJ st key x).2.2≠0 then ((cJ st key x).1,0,0,(cJ st key x).2.2)
 else (cJ st key x).1.Dt ⟨9,[],1,(cJ st key x).2.1,0,0⟩ ⟨9,[],2,(cJ st key x).2.1,0,0⟩
def gI (st:Store) (key:Int) (n:Nat) (beside plain:Int):Store×Nat×Nat:=st.put ⟨10,[],n,key,beside,plain⟩
def fZ (st:Store) (key:Int) (n:Nat) (beside sealed:Int):Int×Nat :=
 if st.has key=false∨st.has beside=false∨st.has sealed=false then (0,1)
 else if (st.at sealed).k≠10∨(st.at sealed).a≠key∨(st.at sealed).n≠n∨(st.at sealed).b≠beside then (0,9) else ((st.at sealed).c,0)
structure Sym where
 ck:Int
 k:Int
 h:Int
 n:Nat
deriving DecidableEq
def fj:Sym:=⟨0,0,0,0⟩
def iB (st:Store) (name:List UInt8):Store×Sym×Nat :=
 if (st.aZ name).2.2≠0 then ((st.aZ name).1,fj,(st.aZ name).2.2) else ((st.aZ name).1,⟨(st.aZ name).2.1,0,(st.aZ name).2.1,0⟩,0)
def cU (st:Store) (y:Sym) (x:Int):Store×Sym×Nat :=
 if (cJ st y.h x).2.2≠0 then ((cJ st y.h x).1,fj,(cJ st y.h x).2.2) else ((cJ st y.h x).1,⟨y.ck,y.k,(cJ st y.h x).2.1,y.n⟩,0)
def jZ (st:Store) (y:Sym) (x:Int):Store×Sym×Nat :=
 if (fG st y.ck x).2.2.2≠0 then ((fG st y.ck x).1,fj,(fG st y.ck x).2.2.2) else ((fG st y.ck x).1,⟨(fG st y.ck x).2.1,(fG st y.ck x).2.2.1,y.h,0⟩,0)
def Sym.ready (y:Sym):Bool:=decide (y.k≠0)&&decide (y.n<18446744073709551615)
def gU (st:Store) (y:Sym) (sealed x:Int) (er:Nat):Store×Sym×Int×Nat :=
 if er≠0 then (st,fj,0,er)
 else if (cU st ⟨y.ck,y.k,y.h,y.n+1⟩ sealed).2.2≠0 then ((cU st ⟨y.ck,y.k,y.h,y.n+1⟩ sealed).1,fj,0,(cU st ⟨y.ck,y.k,y.h,y.n+1⟩ sealed).2.2)
 else ((cU st ⟨y.ck,y.k,y.h,y.n+1⟩ sealed).1,(cU st ⟨y.ck,y.k,y.h,y.n+1⟩ sealed).2.1,x,0)
def iQ (st:Store) (y:Sym) (plain:Int):Store×Sym×Int×Nat :=
 if y.ready=false then (st,fj,0,7)
 else gU (gI st y.k y.n y.h plain).1 y (gI st y.k y.n y.h plain).2.1 (gI st y.k y.n y.h plain).2.1 (gI st y.k y.n y.h plain).2.2
def iR (st:Store) (y:Sym) (sealed:Int):Store×Sym×Int×Nat :=
 if y.ready=false then (st,fj,0,7)
 else gU st y sealed (fZ st y.k y.n y.h sealed).1 (fZ st y.k y.n y.h sealed).2
def iC (st:Store) (y:Sym):Store×Nat×Nat×Nat :=
 if (st.aZ []).2.2≠0 then ((st.aZ []).1,0,0,(st.aZ []).2.2) else fG (st.aZ []).1 y.ck (st.aZ []).2.1
def Int64 (x:Int):Prop:=-9223372036854775808≤x∧x≤9223372036854775807
structure Sym.Wf (y:Sym):Prop where
 ck:Int64 y.ck
 k:Int64 y.k
 h:Int64 y.h
 n:y.n<18446744073709551616
theorem cY {st:Store} (h:st.Ok) (t:Term):(st.put t).2.1≤1048576:=by
 have h1:=h.len;have h2:=h.most;unfold Store.put;split
 ·exact pR _
 ·split
  ·rename_i i hf
   have:=(List.findIdx?_eq_some_iff_getElem.1 hf).1
   show i+1≤_
   omega
  ·split
   ·exact pR _
   ·show st.l.length+1≤_;omega
theorem K0 {st:Store} (h:st.Ok) {t u:Term} (ht:t.Wf) (hu:u.Wf):(st.Dt t u).1.Ok:=by
 unfold Store.Dt;split
 ·exact h.put ht
 ·split
  ·exact (h.put ht).put hu
  ·exact (h.put ht).put hu
theorem sG {st:Store} (h:st.Ok) (x:Int):(st.at x).Wf:=by
 unfold Store.at
 split
 ·rename_i hx;unfold Store.has at hx;rw [gi,decide_eq_true_eq,decide_eq_true_eq] at hx;rw [ux,lz ax];exact h.wf _ (KX _)
 ·exact Qd
theorem kR:fj.Wf:=⟨⟨aG,aG⟩,⟨aG,aG⟩,⟨aG,aG⟩,aG⟩
theorem iD {c:Int} (hk:0≤k∧k≤100) (hs:s.length≤9223372036854775807) (hn:n<18446744073709551616) (ha:Int64 a) (hb:Int64 b) (hc:Int64 c):(⟨k,s,n,a,b,c⟩:Term).Wf:=⟨c94,ha,hb,hc,hn,hs⟩
theorem aL:Int64 0:=⟨aG,aG⟩
theorem eC (h:n≤1048576):Int64 n:=⟨ax,ax⟩
theorem uD {st:Store} (h:st.Ok) (ha:Int64 a) (hb:Int64 b):(cJ st a b).1.Ok:=h.put (iD ax aH ax ha hb aL)
theorem vW {st:Store} (h:st.Ok) (ha:Int64 a) (hb:Int64 b):(fG st a b).1.Ok:=by
 unfold fG;split
 ·exact uD h ha hb
 ·have hn:Int64 (cJ st a b).2.1:=eC (cY h _)
  exact K0 (uD h ha hb) (iD ax aH ax hn aL aL) (iD ax aH ax hn aL aL)
theorem mq {st:Store} {y:Sym} (h:st.Ok) (ha:Int64 y.h) (hx:Int64 x):(cU st y x).1.Ok:=by
 unfold cU;split
 ·exact uD h ha hx
 ·exact uD h ha hx
theorem BP {st:Store} {y:Sym} (h:st.Ok) (ha:Int64 y.ck) (hx:Int64 x):(jZ st y x).1.Ok:=by
 unfold jZ;split
 ·exact vW h ha hx
 ·exact vW h ha hx
def ct:Nat→Nat→List UInt8
 | 0,_=>[]
 | f+1,n=>if n=0 then [] else ct f (n / 128)++[UInt8.ofNat (128+n % 128)]
def put (n:Nat):List UInt8:=ct 9 (n / 128)++[UInt8.ofNat (n % 128)]
def jn (a:Nat):Nat→Nat→List UInt8→Nat×Nat×Nat
 | _,_,[]=>(0,0,2)
 | i,n,c::r=>if (i=0∧c.toNat=128)∨144115188075855871<n then (0,0,3)
  else if c.toNat<128 then (n*128+c.toNat % 128,a+i+1,0) else jn a (i+1) (n*128+c.toNat % 128) r
def get (s:List UInt8) (at_:Int):Nat×Nat×Nat :=
 if at_<0∨(s.length:Int)<at_ then (0,0,1) else jn at_.toNat 0 0 (s.drop at_.toNat)
def aZ (s:List UInt8):List UInt8:=put s.length++s
def dP (s:List UInt8) (at_ most:Int):List UInt8×Nat×Nat :=
 let g:=get s at_
 if g.2.2≠0 then ([],0,g.2.2)
 else if max 0 most<(g.1:Int) then ([],0,4)
 else if s.length - g.2.1<g.1 then ([],0,2)
 else ((s.drop g.2.1).take g.1,g.2.1+g.1,0)
theorem Qe (c:UInt8):c.toNat<256:=UInt8.toNat_lt c
theorem yR (n:Nat) (h:n<256):(UInt8.ofNat n).toNat=n:=by simp [UInt8.toNat_ofNat'];omega
theorem Qf {a b:UInt8} (h:a.toNat=b.toNat):a=b:=UInt8.toNat_inj.1 h
theorem kf (f:Nat):ct f 0=[]:=by cases f<;>simp [ct]
theorem tj:∀ (f g n:Nat),n<128^f→n<128^g→ct f n=ct g n
 | 0,g,n,hf,_=>by
  have:n=0:=by simp at hf;omega
  subst this;rw [kf,kf]
 | f+1,0,n,_,hg=>by
  have:n=0:=by simp at hg;omega
  subst this;rw [kf,kf]
 | f+1,g+1,n,hf,hg=>by
  simp only [ct];split
  ·rfl
  ·rw [tj f g (n / 128) c95 (by rw [Nat.pow_succ] at hg;omega)]
theorem mz (f:Nat) (h:n≠0):ct (f+1) n=ct f (n / 128)++[UInt8.ofNat (128+n % 128)]:=by simp [ct,h]
theorem ME {f:Nat} (h:n<128^f) (he:(ct f n).length=0):n=0:=by
 cases f with
 | zero=>simp at h;omega
 | succ f =>
  by_cases h0:n=0
  ·exact h0
  ·rw [mz f h0] at he;simp at he
theorem Du (f:Nat):∀ n,(ct f n).length≤f:=by
 induction f with
 | zero=>intro n;simp [ct]
 | succ f ih =>
  intro n;simp only [ct];split
  ·simp
  ·have:=ih (n / 128);simp;omega
theorem gz (n:Nat):1≤(put n).length∧(put n).length≤10:=by
 have:=Du 9 (n / 128)
 unfold put;simp;omega
theorem K2 (a:Nat):∀ (f n:Nat) (r:List UInt8),n<128^f→n<18446744073709551616 →
 jn a 0 0 (ct f n++r)=jn a (ct f n).length n r
 | 0,n,r,hf,_=>by
  have:n=0:=by simp at hf;omega
  subst this;simp [ct]
 | f+1,n,r,hf,hn=>by
  by_cases h0:n=0
  ·subst h0;rw [kf];simp
  ·rw [mz f h0,E6,K2 a f (n / 128) _ c95 ax];have hc:=yR (128+n % 128) ax;simp only [bQ,bG,jn,hc];rw [if_neg,if_neg ax]
   ·have:n / 128*128+(128+n % 128) % 128=n:=ax;rw [this];simp
   ·intro h;rcases h with ⟨h1,h2⟩|h
    ·have:=ME (n:=n / 128) c95 h1
     omega
    ·omega
theorem Qg (a n:Nat) (r:List UInt8) (hn:n<18446744073709551616) :
 jn a 0 0 (put n++r)=(n,a+(put n).length,0):=by
 unfold put
 rw [E6,K2 a 9 (n / 128) _ (by have:(128:Nat)^9=9223372036854775808:=(by decide);omega) ax]
 have hc:=yR (n % 128) ax
 simp only [bQ,bG,jn,hc]
 rw [if_neg ax,if_pos ax]
 have:n / 128*128+n % 128 % 128=n:=ax
 rw [this];simp;omega
theorem Dv (p r:List UInt8) (n:Nat) (hn:n<18446744073709551616) :
 get (p++(put n++r)) (p.length:Int)=(n,p.length+(put n).length,0):=by
 unfold get
 rw [if_neg aR]
 simp only [IG]
 rw [List.drop_left,Qg _ _ _ hn]
theorem Fe (a:Nat):∀ (l:List UInt8) (i n v p:Nat),(ct 10 n).length=i→n<18446744073709551616→jn a i n l=(v,p,0) →
 ∃ r,ct 10 n++l=put v++r∧p=a+(put v).length∧v<18446744073709551616
 | [],_,_,_,_,_,_,h=>by simp [jn] at h
 | c::r,i,n,v,p,hi,hn,h=>by
  have hc:=Qe c;have h10:(128:Nat)^10=1180591620717411303424:=aG;have h9:(128:Nat)^9=9223372036854775808:=aG;simp only [jn] at h;split at h
  ·simp at h
  ·rename_i hno;have hn':n≤144115188075855871:=ax;split at h
   ·rename_i hlt;simp only [Prod.mk.injEq,and_true] at h;obtain ⟨h1,h2⟩:=h;have hd:v / 128=n:=ax;have hm:v % 128=c.toNat:=ax;have hpv:put v=ct 10 n++[c]:=by unfold put;rw [hd,hm,tj 10 9 n ax ax];congr 2;exact Qf (yR _ ax)
    refine ⟨r,by rw [hpv];simp,?_,ax⟩;rw [hpv];simp;omega
   ·rename_i hge;have hne:n*128+c.toNat % 128≠0:=by intro h0;have hn0:n=0:=ax;rw [hn0,kf] at hi;simp at hi;omega
    have hp:ct 10 (n*128+c.toNat % 128)=ct 10 n++[c]:=by rw [mz 9 hne,show (n*128+c.toNat % 128) / 128=n by omega,tj 10 9 n ax ax];congr 2;exact Qf (by rw [yR _ (by omega)];omega)
    obtain ⟨r',h1,h2,h3⟩:=Fe a r (i+1) (n*128+c.toNat % 128) v p (by rw [hp];simp;omega) ax h;exact ⟨r',by rw [←h1,hp];simp,h2,h3⟩
theorem VL {a v p:Nat} {l:List UInt8} (h:jn a 0 0 l=(v,p,0)):∃ r,l=put v++r∧p=a+(put v).length∧v<18446744073709551616:=by
 have:=Fe a l 0 0 v p (by simp [ct]) ax h
 simpa [ct] using this
theorem Ff (a:Nat):∀ (l:List UInt8) (i n:Nat),((jn a i n l).2.2=0∨(jn a i n l)=(0,0,2)∨jn a i n l=(0,0,3))
 | [],i,n=>by simp [jn]
 | c::r,i,n=>by
  simp only [jn];split
  ·simp
  ·split
   ·simp
   ·exact Ff a r _ _
theorem VM (s:List UInt8) (k:Int):(get s k).2.2=0∨get s k=(0,0,1)∨get s k=(0,0,2)∨get s k=(0,0,3):=by
 unfold get;split
 ·simp
 ·rcases Ff k.toNat (s.drop k.toNat) 0 0 with h|h|h<;>simp [h]
theorem get_ok (h:(get s k).2.2=0) :
 ∃ (r:List UInt8),0≤k∧k≤s.length∧s=s.take k.toNat++(put (get s k).1++r)∧(get s k).2.1=k.toNat+(put (get s k).1).length∧(get s k).1<18446744073709551616∧(get s k).2.1≤s.length:=by
 unfold get at h ⊢
 split at h
 ·simp at h
 ·rename_i hno;rw [if_neg hno];obtain ⟨r,h1,h2,h3⟩:=VL (a:=k.toNat) (v:=(jn k.toNat 0 0 (s.drop k.toNat)).1) (p:=(jn k.toNat 0 0 (s.drop k.toNat)).2.1) (l:=s.drop k.toNat) (Prod.ext rfl (Prod.ext rfl h));refine ⟨r,ax,ax,?_,h2,h3,?_⟩
  ·rw [←h1,List.take_append_drop]
  ·have:=congrArg List.length h1
   simp at this
   omega
theorem BQ (s:List UInt8) (k:Int):(get s k).2.1≤s.length∧(get s k).1<18446744073709551616:=by
 rcases VM s k with h|h|h|h
 ·obtain ⟨r,_,_,_,_,h5,h6⟩:=get_ok h;exact ⟨h6,h5⟩
 all_goals simp [h]
structure bJ where
 v:Nat→Int
 offer:List UInt8
structure oa where
 c:Nat
 lo:Nat
 hi:Nat
deriving DecidableEq
def iT (c:Nat):Bool:=c==1||c==2||c==11||c==12
def number (c:Nat):oa:=⟨c,1,4294967296⟩
def name (c:Nat):oa:=⟨c,1,1048576⟩
def uE:List oa:=[number 1,⟨3,0,0⟩,⟨4,0,1⟩,name 6,name 7,name 8,name 9,name 10]
def uF:List oa:=[number 1,number 2,name 6,name 8,name 9]
def uG:List oa:=[number 2,⟨5,1,15⟩]
def uH:List oa:=[number 2,⟨11,0,1000⟩,⟨12,0,255⟩,name 9]
def bk (k:Int):List oa:=if k=1 then uE else if k=2 then uF else if k=3 then uG else if k=4 then uH else []
theorem mh (k:Int):(k=1∧bk k=uE)∨(k=2∧bk k=uF)∨(k=3∧bk k=uG)∨(k=4∧bk k=uH)∨(¬k=1∧¬k=2∧¬k=3∧¬k=4∧bk k=[]):=by
 unfold bk;by_cases h1:k=1
 ·simp [h1]
 ·by_cases h2:k=2
  ·simp [h2]
  ·by_cases h3:k=3
   ·simp [h3]
   ·by_cases h4:k=4
    ·simp [h4]
    ·simp [h1,h2,h3,h4]
def Bl (l:List oa) (c:Nat):Bool:=l.any fun f=>f.c==c
def jf (m:bJ) (l:List oa):bJ:=⟨fun c=>if c=0 then m.v 0 else if Bl l c=true∧c≠3 then m.v c else 0,if Bl l 3=true then m.offer else []⟩
def yS (last:Nat):List UInt8→Bool
 | []=>true
 | x::r=>decide (1≤x.toNat∧x.toNat<last)&&yS x.toNat r
def cL (s:List UInt8):Bool:=yS 256 s&&decide (1≤s.length∧s.length≤8)
def iE (m:bJ) (f:oa):Bool:=if f.c=3 then cL m.offer else decide ((f.lo:Int)≤m.v f.c∧m.v f.c≤f.hi)
def gu:List Nat:=[0,1,2,4,5,6,7,8,9,10,11,12]
def bJ.same (a b:bJ):Bool:=gu.all (fun c=>decide (a.v c=b.v c))&&decide (a.offer=b.offer)
def bJ.right (m:bJ):Bool:=!(bk (m.v 0)).isEmpty&&(bk (m.v 0)).all (iE m)&&m.same (jf m (bk (m.v 0)))
structure bJ.Wf (m:bJ):Prop where
 ints:∀ c∈[0,4,5,6,7,8,9,10],-9223372036854775808≤m.v c∧m.v c≤9223372036854775807
 pT:∀ c∈[1,2,11,12],0≤m.v c∧m.v c≤18446744073709551615
 text:m.offer.length≤9223372036854775807
def iF (m:bJ) (f:oa):List UInt8:=if f.c=3 then aZ m.offer else put (m.v f.c).toNat
def bJ.bytes (m:bJ):List UInt8:=put (m.v 0).toNat++(bk (m.v 0)).flatMap (iF m)
def bJ.encode (m:bJ):List UInt8:=if m.right=true then m.bytes else []
def Dw (v:Nat→Int) (c:Nat) (x:Int):Nat→Int:=fun k=>if k=c then x else v k
def jV (s:List UInt8) (m:bJ) (k:Nat) (f:oa):bJ×Nat×Nat :=
 if f.c=3 then (⟨m.v,(dP s k 8).1⟩,(dP s k 8).2.1,(dP s k 8).2.2)
 else if (get s k).2.2=0∧4294967296<(get s k).1 then (m,(get s k).2.1,3)
 else if (get s k).2.2=0 then (⟨Dw m.v f.c (get s k).1,m.offer⟩,(get s k).2.1,0)
 else (m,(get s k).2.1,(get s k).2.2)
def readAll (s:List UInt8):bJ→Nat→List oa→bJ×Nat×Nat
 | m,k,[]=>(m,k,0)
 | m,k,f::l=>if (jV s m k f).2.2=0 then readAll s (jV s m k f).1 (jV s m k f).2.1 l else jV s m k f
def aQ:bJ:=⟨fun _=>0,[]⟩
def gA (k:Int):bJ:=⟨fun c=>if c=0 then k else 0,[]⟩
def fc (s:List UInt8):bJ×Nat :=
 if 4096<s.length then (aQ,4)
 else if (get s 0).2.2≠0 then (aQ,(get s 0).2.2)
 else if (get s 0).1<1∨5≤(get s 0).1 then (aQ,3)
 else
  let r:=readAll s (gA (get s 0).1) (get s 0).2.1 (bk (get s 0).1)
  if r.2.2≠0 then (aQ,r.2.2)
  else if r.2.1<s.length∨r.1.right=false then (aQ,3)
  else (r.1,0)
theorem tM {f:oa} (h:f∈bk k):f.c=1∨f.c=2∨f.c=3∨f.c=4∨f.c=5∨f.c=6∨f.c=7∨f.c=8∨f.c=9∨f.c=10∨f.c=11∨f.c=12:=by have h1:∀ f∈uE++uF++uG++uH,f.c=1∨f.c=2∨f.c=3∨f.c=4∨f.c=5∨f.c=6∨f.c=7∨f.c=8∨f.c=9∨f.c=10∨f.c=11∨f.c=12:=aG;exact Sa
theorem mA {f:oa} (h:f∈bk k):f.lo≤1∧f.hi≤4294967296∧(f.c≠3→iT f.c=false→f.hi≤1048576):=by have h1:∀ f∈uE++uF++uG++uH,f.lo≤1∧f.hi≤4294967296∧(f.c≠3→iT f.c=false→f.hi≤1048576):=aG;exact Sa
theorem qh (k:Int):(bk k).length≤8:=by rcases mh k with ⟨_,e⟩|⟨_,e⟩|⟨_,e⟩|⟨_,e⟩|⟨_,_,_,_,e⟩<;>rw [e]<;>decide
theorem bJ.Wf.cell {m:bJ} (h:m.Wf) {f:oa} (hf:f∈bk k) (h3:f.c≠3):(iT f.c=true→0≤m.v f.c∧m.v f.c<18446744073709551616)∧(iT f.c=false→-9223372036854775808≤m.v f.c∧m.v f.c≤9223372036854775807):=by
 have hi:=h.ints;have hn:=h.pT;rcases tM hf with e|e|e|e|e|e|e|e|e|e|e|e<;>rw [e] at h3 ⊢<;>simp [iT] at h3 ⊢
 ·have:=hn 1 aH;omega
 ·have:=hn 2 aH;omega
 ·have:=hi 4 aH;omega
 ·have:=hi 5 aH;omega
 ·have:=hi 6 aH;omega
 ·have:=hi 7 aH;omega
 ·have:=hi 8 aH;omega
 ·have:=hi 9 aH;omega
 ·have:=hi 10 aH;omega
 ·have:=hn 11 aH;omega
 ·have:=hn 12 aH;omega
theorem MF (m:bJ):jf m []=gA (m.v 0):=by simp [jf,gA,Bl]
theorem rN (l:List oa) (f:oa) (c:Nat):Bl (l++[f]) c=(Bl l c||f.c==c):=by simp [Bl]
theorem MG {m:bJ} {l:List oa} {f:oa} (h0:f.c≠0) (h3:f.c≠3):jf m (l++[f])=⟨Dw (jf m l).v f.c (m.v f.c),(jf m l).offer⟩:=by
 unfold jf Dw;congr 1
 ·funext c;simp only [rN];by_cases e:c=f.c
  ·subst e;simp [h0,h3]
  ·have:(f.c==c)=false:=by simpa using sg e
   simp [this,e]
 ·rw [rN];have:(f.c==3)=false:=by simpa using h3
  rw [this,pS]
theorem II {m:bJ} {l:List oa} {f:oa} (h3:f.c=3):jf m (l++[f])=⟨(jf m l).v,m.offer⟩:=by
 unfold jf;congr 1
 ·funext c;simp only [rN];by_cases e:c=3
  ·simp [e]
  ·have:(f.c==c)=false:=by rw [h3];simpa using sg e
   simp [this]
 ·rw [rN,h3];simp
abbrev aW (α:Type):=Store×Except Nat α
def dr {α β:Type} (r:aW α) (f:Store→α→aW β):aW β:=match r with
 | (st,.ok a)=>f st a
 | (st,.error e)=>(st,.error e)
def need (b:Bool) (e:Nat) (st:Store):aW Unit:=if b=true then (st,.ok ()) else (st,.error e)
def yT (r:Store×Nat×Nat):aW Int:=(r.1,if r.2.2=0 then .ok (r.2.1:Int) else .error r.2.2)
def mC (st:Store) (s:List UInt8):aW Int:=yT (st.aZ s)
def eD (st:Store) (x:Int):aW Int:=yT (kQ st x)
def eG (st:Store) (x:Int):aW Int:=yT (jY st x)
def cV (st:Store) (x p:Int):aW Int:=yT (kI st x p)
def gJ (st:Store) (x b:Int):aW Int:=yT (kJ st x b)
def Bo (r:Store×Sym×Nat):aW Sym:=(r.1,if r.2.2=0 then .ok r.2.1 else .error r.2.2)
def cE (st:Store) (y:Sym) (x:Int):aW Sym:=Bo (cU st y x)
def gK (st:Store) (y:Sym) (x:Int):aW Sym:=Bo (jZ st y x)
def BR (r:Store×Sym×Int×Nat):aW (Sym×Int):=(r.1,if r.2.2.2=0 then .ok (r.2.1,r.2.2.1) else .error r.2.2.2)
def nt (st:Store) (y:Sym) (x:Int):aW (Sym×Int):=BR (iQ st y x)
def qi (st:Store) (y:Sym) (c:Int):aW (Sym×Int):=BR (iR st y c)
def Dx (r:Store×Nat×Nat×Nat):aW (Int×Int):=(r.1,if r.2.2.2=0 then .ok ((r.2.1:Int),(r.2.2.1:Int)) else .error r.2.2.2)
def tq (st:Store) (y:Sym):aW (Int×Int):=Dx (iC st y)
def pN (st:Store) (y:Sym) (p d:Int):aW (Sym×Int) :=
 dr (Dx (eZ st p d)) fun st b=>dr (cE st y b.1) fun st y=>dr (gK st y b.2) fun st y=>(st,.ok (y,b.1))
def qj (st:Store) (x:Int):aW (List UInt8):=if (st.at x).k=1 then (st,.ok (st.at x).s) else (st,.error 3)
structure Pair where
 dh:Int
 cD:Int
deriving DecidableEq
structure dG where
 jo:Pair
 p0:Int
 p1:Int
deriving DecidableEq
def dG.Bi (p:dG) (slot:Int):Int:=if slot=0 then p.p0 else p.p1
structure cz where
 y:Sym
 e:Int
 ek:Int
 offer:List UInt8
deriving DecidableEq
structure eE where
 y:Sym
 peer:Int
 version:Int
 stamp:Nat
 e:Int
 ek:Int
 jo:Int
deriving DecidableEq
structure jq where
 h:Int
 send:Int
 recv:Int
 version:Int
deriving DecidableEq
def Fg:List UInt8:=[115,111,117,103,104]
def mD (slot:Int):List UInt8:=if slot=0 then [48] else [49]
def firstT (st:Store) (text:List UInt8) (slot:Int) (p:Pair):aW Sym :=
 dr (Bo (iB st Fg)) fun st y =>
 dr (mC st text) fun st x=>dr (cE st y x) fun st y =>
 dr (mC st (mD slot)) fun st x=>dr (cE st y x) fun st y =>
 dr (cE st y p.dh) fun st y=>cE st y p.cD
def dX (st:Store) (me:Pair):aW Pair :=
 dr (eD st me.dh) fun st a=>dr (eG st me.cD) fun st b=>(st,.ok ⟨a,b⟩)
def uI (bW:Int) (offer:List UInt8) (slot e ek box c1 c2:Int):bJ :=
 ⟨fun c=>if c=0 then 1 else if c=1 then bW else if c=4 then slot else if c=6 then e else if c=7 then ek else if c=8 then box else if c=9 then c1 else if c=10 then c2 else 0,offer⟩
def uJ (bW to e box c1:Int):bJ :=
 ⟨fun c=>if c=0 then 2 else if c=1 then bW else if c=2 then to else if c=6 then e else if c=8 then box else if c=9 then c1 else 0,[]⟩
def iY (st:Store) (me:Pair) (p:dG) (m:bJ) (stamp:Nat) (d0 d1 d2:Int):aW (bJ×cz) :=
 dr (need (decide (m.v 4=0∨m.v 4=1)) 1 st) fun st _ =>
 dr (firstT st m.offer (m.v 4) p.jo) fun st y =>
 dr (eD st d0) fun st e=>dr (cE st y e) fun st y =>
 dr (eG st d1) fun st ek=>dr (cE st y ek) fun st y =>
 dr (cV st d0 p.jo.dh) fun st x=>dr (gK st y x) fun st y =>
 dr (pN st y p.jo.cD d2) fun st yb =>
 dr (eD st me.dh) fun st x=>dr (nt st yb.1 x) fun st yc =>
 dr (cV st me.dh p.jo.dh) fun st x=>dr (gK st yc.1 x) fun st y =>
 dr (gK st y (p.Bi (m.v 4))) fun st y =>
 dr (mC st (put stamp)) fun st x=>dr (nt st y x) fun st yd =>
 dr (need (uI (m.v 1) m.offer (m.v 4) e ek yb.2 yc.2 yd.2).right 3 st) fun st _ =>
 (st,.ok (uI (m.v 1) m.offer (m.v 4) e ek yb.2 yc.2 yd.2,⟨yd.1,d0,d1,m.offer⟩))
def whoT (st:Store) (aj:List dG) (x:Int):aW Nat:=match aj.findIdx? fun p=>decide (p.jo.dh=x) with
 | some i=>(st,.ok i)
 | none=>(st,.error 5)
def BS (a b:List UInt8):List UInt8:=if cL a=true∧cL b=true then a.filter fun c=>b.contains c else []
def xx (a b:List UInt8):Nat×Nat :=
 if cL a=false∨cL b=false then (0,3) else if BS a b=[] then (0,11) else (((BS a b).headD 0).toNat,0)
def IJ (st:Store) (s:List UInt8):aW Nat:=if (get s 0).2.2=0∧(get s 0).2.1=s.length then (st,.ok (get s 0).1) else (st,.error 3)
def gB (st:Store) (me:Pair) (aj:List dG) (text:List UInt8) (m:bJ):aW eE :=
 dr (need (decide (m.v 0=1)&&m.right) 3 st) fun st _ =>
 dr (need (decide ((xx text m.offer).2=0)) (xx text m.offer).2 st) fun st _ =>
 dr (dX st me) fun st p =>
 dr (firstT st m.offer (m.v 4) p) fun st y =>
 dr (cE st y (m.v 6)) fun st y=>dr (cE st y (m.v 7)) fun st y =>
 dr (cV st me.dh (m.v 6)) fun st x=>dr (gK st y x) fun st y =>
 dr (cE st y (m.v 8)) fun st y =>
 dr (gJ st me.cD (m.v 8)) fun st x=>dr (gK st y x) fun st y =>
 dr (qi st y (m.v 9)) fun st yp =>
 dr (whoT st aj yp.2) fun st i =>
 dr (cV st me.dh yp.2) fun st x=>dr (gK st yp.1 x) fun st y =>
 dr (gK st y ((aj.getD i ⟨⟨0,0⟩,0,0⟩).Bi (m.v 4))) fun st y =>
 dr (qi st y (m.v 10)) fun st yx=>dr (qj st yx.2) fun st s =>
 dr (IJ st s) fun st n =>
 (st,.ok ⟨yx.1,i,(xx text m.offer).1,n,m.v 6,m.v 7,yp.2⟩)
def kK (st:Store) (o:eE) (bW to:Int) (d0 d1:Int):aW (bJ×jq) :=
 dr (eD st d0) fun st e=>dr (cE st o.y e) fun st y =>
 dr (cV st d0 o.e) fun st x=>dr (gK st y x) fun st y =>
 dr (cV st d0 o.jo) fun st x=>dr (gK st y x) fun st y =>
 dr (pN st y o.ek d1) fun st yb =>
 dr (mC st [UInt8.ofNat (o.version % 256).toNat]) fun st x=>dr (nt st yb.1 x) fun st yc =>
 dr (tq st yc.1) fun st ab =>
 dr (need (uJ bW to e yb.2 yc.2).right 3 st) fun st _ =>
 (st,.ok (uJ bW to e yb.2 yc.2,⟨yc.1.h,ab.2,ab.1,o.version⟩))
def iU (st:Store) (me:Pair) (p:cz) (m:bJ):aW jq :=
 dr (need (decide (m.v 0=2)&&m.right) 3 st) fun st _ =>
 dr (cE st p.y (m.v 6)) fun st y =>
 dr (cV st p.e (m.v 6)) fun st x=>dr (gK st y x) fun st y =>
 dr (cV st me.dh (m.v 6)) fun st x=>dr (gK st y x) fun st y =>
 dr (cE st y (m.v 8)) fun st y =>
 dr (gJ st p.ek (m.v 8)) fun st x=>dr (gK st y x) fun st y =>
 dr (qi st y (m.v 9)) fun st yv=>dr (qj st yv.2) fun st v =>
 dr (need (decide (v.length=1)) 3 st) fun st _ =>
 dr (need (p.offer.contains (v.headD 0)) 11 st) fun st _ =>
 dr (tq st yv.1) fun st ab =>
 (st,.ok ⟨yv.1.h,ab.1,ab.2,(v.headD 0).toNat⟩)
-- layer 14
structure tv where
 next:Nat
 bits:Nat
deriving DecidableEq
def yU:tv:=⟨0,0⟩
def tv.digit (w:tv) (n:Nat):Nat:=if w.next≤n∨64≤w.next - 1 - n then 0 else 2^(w.next - 1 - n)
def tv.can (w:tv) (n:Nat):Bool:=if n=18446744073709551615 then false else if w=yU∨w.next≤n then true else decide (w.digit n≠0)&&decide (w.bits &&& w.digit n=0)
def tv.take (w:tv) (n:Nat):tv×Nat :=
 if n=18446744073709551615 then (yU,1) else if w.can n=false then (yU,12)
 else if n<w.next then (⟨w.next,w.bits ||| w.digit n⟩,0) else (⟨n+1,((w.bits <<< (n+1 - w.next)) % 18446744073709551616) ||| 1⟩,0)
structure tv.Wf (w:tv):Prop where
 next:w.next<18446744073709551616
 bits:w.bits<18446744073709551616
-- layer 15
structure pO where
 key:Int
 aF:Int
deriving DecidableEq
def Dy:pO:=⟨0,0⟩
def kg (st:Store) (c:pO):Store×Nat×Nat:=bV st c.key 1
def iu (st:Store) (c:pO):Store×pO×Nat :=
 if c.aF<0∨1000≤c.aF then (st,Dy,13)
 else if (bV st c.key 2).2.2≠0 then ((bV st c.key 2).1,Dy,(bV st c.key 2).2.2)
 else ((bV st c.key 2).1,⟨(bV st c.key 2).2.1,c.aF+1⟩,0)
-- layer 16
structure PM where
 aF:Int
 key:Int
 w:tv
deriving DecidableEq
def Dz (l:List PM) (e:PM):List PM:=(l.filter fun x=>decide (x.aF<e.aF))++e::l.filter fun x=>decide (e.aF<x.aF)
def Qh (l:List PM) (e:PM):List PM:=if 4<(Dz l e).length then (Dz l e).tail else Dz l e
-- layer 19
structure dm where
 out:pO
 sent:Int
 fX:pO
 w:tv
 old:List PM
 x:jq
deriving DecidableEq
def om (st:Store) (key:Int) (n:Nat) (beside:Int) (s:List UInt8):Store×Nat×Nat :=
 if st.has key=false∨st.has beside=false then (st,0,1)
 else if (st.aZ s).2.2≠0 then ((st.aZ s).1,0,(st.aZ s).2.2)
 else gI (st.aZ s).1 key n beside (st.aZ s).2.1
def oo (st:Store) (key:Int) (n:Nat) (beside sealed:Int):List UInt8×Nat :=
 if (fZ st key n beside sealed).2≠0 then ([],(fZ st key n beside sealed).2)
 else if (st.at (fZ st key n beside sealed).1).k≠1 then ([],9)
 else ((st.at (fZ st key n beside sealed).1).s,0)
def Fh (st:Store) (y:dm):Store×dm×Nat :=
 if (iu st y.out).2.2≠0 then ((iu st y.out).1,y,(iu st y.out).2.2)
 else ((iu st y.out).1,{y with out:=(iu st y.out).2.1,sent:=0},0)
structure Recv where
 fX:pO
 w:tv
 old:List PM
deriving DecidableEq
def dm.recv (y:dm):Recv:=⟨y.fX,y.w,y.old⟩
def dm.take (y:dm) (r:Recv):dm:={ y with fX:=r.fX,w:=r.w,old:=r.old}
def keep:List PM→Int→List Int→tv→List PM
 | l,_,[],_=>l
 | l,e,k::ks,w=>keep (Qh l ⟨e,k,w⟩) (e+1) ks yU
-- layer 20
structure One where
 id:Nat
 to:Nat
 born:Nat
deriving DecidableEq
def bz:One:=⟨0,0,0⟩
structure aS where
 prev:One
 cur:One
 next:One
deriving DecidableEq
def eL:aS:=⟨bz,bz,bz⟩
def One.there (o:One):Bool:=decide (o.id≠0)
def aS.mine (l:aS) (o:One):aS:=⟨if l.next.there=true then l.next else l.cur,o,bz⟩
def aS.theirs (l:aS) (o:One):aS:={ l with next:=o}
def aS.heard (l:aS) (id:Nat):aS:=if id=0∨id≠l.next.id then l else ⟨l.cur,l.next,bz⟩
def One.jP (now age:Nat) (o:One):One:=if o.there=true∧o.born<now∧age<now - o.born then bz else o
def aS.expire (l:aS) (now age:Nat):aS:=⟨l.prev.jP now age,l.cur.jP now age,l.next.jP now age⟩
def aS.order (l:aS):List One:=[l.cur,l.next,l.prev]
def aS.find (l:aS) (id:Nat):Option One:=l.order.find? fun o=>o.there&&decide (o.id=id)
def aS.all (l:aS):List One:=l.order.filter One.there
-- layer 18
def vX (last:Option Nat) (stamp:Nat):Nat:=match last with
 | none=>0
 | some l=>if stamp≤l then 12 else 0
structure bC where
 id:Nat
 index:Int
 count:Int
 part:List UInt8
def iG:bC:=⟨0,0,0,[]⟩
def bC.ok (f:bC):Prop:=1≤f.id∧f.id≤4294967296∧1≤f.count∧f.count≤16∧0≤f.index∧f.index<f.count∧1≤f.part.length∧f.part.length≤1000
instance okDec (f:bC):Decidable f.ok:=by unfold bC.ok;infer_instance
def bC.right (f:bC):Bool:=decide f.ok
theorem eH (f:bC):f.right=true↔f.ok:=by unfold bC.right;exact decide_eq_true_iff
def bC.bytes (f:bC):List UInt8:=put f.id++(put f.index.toNat++(put f.count.toNat++f.part))
def bC.encode (f:bC):List UInt8:=if f.ok then f.bytes else []
def decode (s:List UInt8):bC×Nat :=
 let a:=get s 0
 if a.2.2≠0 then (iG,a.2.2) else
 let b:=get s a.2.1
 if b.2.2≠0 then (iG,b.2.2) else
 let c:=get s b.2.1
 if c.2.2≠0 then (iG,c.2.2) else
 if bC.ok ⟨a.1,b.1,c.1,s.drop c.2.1⟩ then (⟨a.1,b.1,c.1,s.drop c.2.1⟩,0) else (iG,3)
end af
namespace Go
open Go.RowKit
@[simp,go_sem] abbrev fH (t:af.Term):Array Value:=#[vI t.k,vS t.s,vU t.n,vI t.a,vI t.b,vI t.c]
@[simp,go_sem] abbrev tL:Array Value:=#[vI 0,.string ⟨#[]⟩,vU 0,vI 0,vI 0,vI 0]
@[simp,go_sem] abbrev jg (f:af.bC):Array Value:=#[vU f.id,vI f.index,vI f.count,vS f.part]
@[simp,go_sem] abbrev dW (m:af.bJ):Array Value:=#[vI (m.v 0),vU (m.v 1),vU (m.v 2),vS m.offer,vI (m.v 4),vI (m.v 5),vI (m.v 6),vI (m.v 7),vI (m.v 8),vI (m.v 9),vI (m.v 10),vU (m.v 11),vU (m.v 12)]
@[simp,go_sem] abbrev mkK (m:af.bJ) (k:Int):Array Value:=#[vI k,vU (m.v 1),vU (m.v 2),vS m.offer,vI (m.v 4),vI (m.v 5),vI (m.v 6),vI (m.v 7),vI (m.v 8),vI (m.v 9),vI (m.v 10),vU (m.v 11),vU (m.v 12)]
@[simp,go_sem] abbrev oM (m:af.bJ) (k:Int):Array Value:=#[vI (m.v 0),vU (m.v 1),vU (m.v 2),vS m.offer,vI k,vI (m.v 5),vI (m.v 6),vI (m.v 7),vI (m.v 8),vI (m.v 9),vI (m.v 10),vU (m.v 11),vU (m.v 12)]
@[simp,go_sem] abbrev lF:Array Value:=#[vI 0,vU 0,vU 0,.string ⟨#[]⟩,vI 0,vI 0,vI 0,vI 0,vI 0,vI 0,vI 0,vU 0,vU 0]
@[simp,go_sem] abbrev jM (m:af.bJ) (s a b c d e:Int):Array Value:=#[vI 1,vU (m.v 1),vU 0,vS m.offer,vI s,vI 0,vI a,vI b,vI c,vI d,vI e,vU 0,vU 0]
@[simp,go_sem] abbrev si (f t e b c:Int):Array Value:=#[vI 2,vU f,vU t,.string ⟨#[]⟩,vI 0,vI 0,vI e,vI 0,vI b,vI c,vI 0,vU 0,vU 0]
@[simp,go_sem] abbrev kj (m:af.bJ) (u1 u2 f n a b:Int):Array Value:=#[vI (m.v 0),vU u1,vU u2,vS m.offer,vI (m.v 4),vI (m.v 5),vI (m.v 6),vI (m.v 7),vI (m.v 8),vI (m.v 9),vI (m.v 10),vU (m.v 11),vU (m.v 12),vI f,vU n,vI a,vI b]
@[simp,go_sem] abbrev eK (y:af.Sym):Array Value:=#[vI y.ck,vI y.k,vI y.h,vU y.n]
@[simp,go_sem] abbrev ko (p:Nat) (y:af.Sym):Array Value:=#[vP p 0,vI y.ck,vI y.k,vI y.h,vU y.n]
@[simp,go_sem] abbrev iw (o:af.eE) (pe:Int):Array Value:=#[vI o.y.ck,vI o.y.k,vI o.y.h,vU o.y.n,vI pe,vI o.version,vU o.stamp,vI o.e,vI o.ek,vI o.jo]
@[simp,go_sem] abbrev qa:Array Value:=#[vI 0,vI 0,vI 0,vU 0,vI 0,vI 0,vU 0,vI 0,vI 0,vI 0]
@[simp,go_sem] abbrev vM (q:af.cz):Array Value:=#[vI q.y.ck,vI q.y.k,vI q.y.h,vU q.y.n,vI q.e,vI q.ek,vS q.offer]
@[simp,go_sem] abbrev iH (z:af.jq):Array Value:=#[vI z.h,vI z.send,vI z.recv,vI z.version]
@[simp,go_sem] abbrev pU (q:af.dG):Array Value:=#[vI q.jo.dh,vI q.jo.cD,vI q.p0,vI q.p1]
@[simp,go_sem] abbrev Vo (o:af.One):Array Value:=#[vU o.id,vU o.to,vU o.born]
@[simp,go_sem] abbrev E7 (l:af.aS):Array Value:=#[vU l.prev.id,vU l.prev.to,vU l.prev.born,vU l.cur.id,vU l.cur.to,vU l.cur.born,vU l.next.id,vU l.next.to,vU l.next.born]
@[simp,go_sem] abbrev oI (q:Nat) (l:af.aS):Array Value:=#[vP q 0,vU l.prev.id,vU l.prev.to,vU l.prev.born,vU l.cur.id,vU l.cur.to,vU l.cur.born,vU l.next.id,vU l.next.to,vU l.next.born]
@[simp,go_sem] abbrev dK:Array Value:=#[vI 0,.string ⟨#[]⟩,.bool false,vI 0,.slice none 0 0,vI 0]
@[simp,go_sem] abbrev eM (a:Int) (s:List UInt8) (y:Bool) (h:Int) (o:Value) (c:Int):Array Value:=#[vI a,vS s,.bool y,vI h,o,vI c]
@[simp,go_sem] abbrev DC (y:af.dm) (v:Value) (p:Nat):Array Value:=#[vI y.out.key,vI y.out.aF,vI y.sent,vI y.fX.key,vI y.fX.aF,vU y.w.next,vU y.w.bits,v,vP p 0,vI y.x.h,vI y.x.send,vI y.x.recv,vI y.x.version]
@[simp,go_sem] abbrev vN (p:Nat) (me:af.Pair) (rp n cp:Nat) (o:List UInt8) (sz se ms sp:Int) (g rq cq mb lb:Nat):Array Value:=#[vP p 0,vI me.dh,vI me.cD,vL rp 0 n cp,vS o,vI sz,vU se,vU ms,vU sp,vP g 0,vL rq 0 n cq,.map (some mb),.map (some lb)]
theorem rl {A Q:Prop} (h:A) (k:A→Q:=by intro r;(first|simp only [bZ,gC,cl,fH,tL,jg,dW,mkK,oM,lF,jM,si,kj,eK,ko,iw,qa,vM,iH,pU,Vo,E7,oI,dK,eM,DC,jt,vN,vI,vU,vP,vL,vS,bF,Nat.reduceAdd] at r|simp only [bZ,gC,cl,fH,tL,jg,dW,mkK,oM,lF,jM,si,kj,eK,ko,iw,qa,vM,iH,pU,Vo,E7,oI,dK,eM,DC,vN,vI,vU,vP,vL,vS,bF,Nat.reduceAdd] at r);exact r):Q:=k h
theorem dw {A Q:Prop} (h:A) (k:A→Q:=by intro r;(first|simp only [bZ,gC,cl,aA,fH,tL,jg,dW,mkK,oM,lF,jM,si,kj,eK,ko,iw,qa,vM,iH,pU,Vo,E7,oI,dK,eM,DC,jt,vN,vI,vU,vP,vL,vS,bF,Nat.reduceAdd] at r|simp only [bZ,gC,cl,aA,fH,tL,jg,dW,mkK,oM,lF,jM,si,kj,eK,ko,iw,qa,vM,iH,pU,Vo,E7,oI,dK,eM,DC,vN,vI,vU,vP,vL,vS,bF,Nat.reduceAdd] at r);exact r):Q:=k h
theorem xX {A Q:Prop} (h:A) (k:A→Q:=by intro r;(first|simp only [bZ,gC,cl,fH,tL,jg,dW,mkK,oM,lF,jM,si,kj,eK,ko,iw,qa,vM,iH,pU,Vo,E7,oI,dK,eM,DC,jt,vN,vI,vU,vP,vL,vS,bF] at r|simp only [bZ,gC,cl,fH,tL,jg,dW,mkK,oM,lF,jM,si,kj,eK,ko,iw,qa,vM,iH,pU,Vo,E7,oI,dK,eM,DC,vN,vI,vU,vP,vL,vS,bF] at r);exact r):Q:=k h
theorem rla {A Q:Prop} (h:A) (k:A→Q:=by intro r;(first|simp only [oN,bZ,gC,cl,fH,tL,jg,dW,mkK,oM,lF,jM,si,kj,eK,ko,iw,qa,vM,iH,pU,Vo,E7,oI,dK,eM,DC,jt,vN,vI,vU,vP,vL,vS,bF,Nat.reduceAdd] at r|simp only [oN,bZ,gC,cl,fH,tL,jg,dW,mkK,oM,lF,jM,si,kj,eK,ko,iw,qa,vM,iH,pU,Vo,E7,oI,dK,eM,DC,vN,vI,vU,vP,vL,vS,bF,Nat.reduceAdd] at r);exact r):Q:=k h
theorem K3 {A:Prop} (h:A:=by (first|exact List.Perm.refl _|(haveI:DecidableEq (Nat×Obj):=fun _ _=>Classical.propDecidable _;(try simp only [jt]);(try simp only [cl,fH,tL,jg,dW,mkK,oM,lF,jM,si,kj,eK,ko,iw,qa,vM,iH,pU,Vo,E7,oI,dK,eM,DC,vN,vL,vP,vU,vI,vS]);rw [Bk];intro x;simp only [List.count_cons,List.count_append,List.count_nil];omega))):A:=h
theorem pmR {A:Prop} (h:A:=by (first|exact List.Perm.refl _|(haveI:DecidableEq aW:=fun _ _=>Classical.propDecidable _;(try simp only [jt]);(try simp only [cl,fH,tL,jg,dW,mkK,oM,lF,jM,si,kj,eK,ko,iw,qa,vM,iH,pU,Vo,E7,oI,dK,eM,DC,vN,vL,vP,vU,vI,vS]);rw [Bk];intro x;simp only [List.count_cons,List.count_append,List.count_nil];omega))):A:=h
structure DF (Bc:Nat) (J:Nat→World→Prop):Prop where
 cell:∀ k A v,J k A→J k (A.setCell ⟨Bc,0,none⟩ v)
 more:∀ k A A',J k A→A.grownBy A' none→J k A'
def K4 (F:Fence) (n:Nat) (P:Program) (g:Nat) (lb:Array Value) (encs:Nat→Array Value) (Kp:World→World→Prop) (N Bc:Nat) (w:World):Prop :=
 ∀ (l:Nat) (J:Nat→World→Prop) (W:World),Kp w W→DF Bc J →
  (∀ k W1,J k W1→k<N→YieldAt F (n - 1) P l (encs k) W1 fun e W'=>e=.returned (.bool true)∧J (k+1) W'∧Kp W1 W') →
  J 0 W→CallsIn F n P g (#[.func (.yield l) #[] #[]]++lb) W fun e W'=>(∃ v,e=.returned v)∧J N W'
def MH (B:Nat) (Kp:World→World→Prop) (I:Nat→World→Prop) (k:Nat) (W:World):Exit→Act→World→Prop
 | .normal,_,W'=>KeepsFrom B W W'∧Kp W W'∧I k W'
 | _,_,_=>False
variable {F:Fence} {n:Nat} {P:Program}
theorem ql {g:Operand} {ps:Array Tmp} {assign body:Code} {Q:Exit→Act→World→Prop} {a:Act} {w:World}
 (hro:F.round=none) (h1:1≤n) {gf:Nat} {lb:Array Value} (hg:a.eval g=.func (.func gf) #[] lb) (hFg:F.fn gf) (eg:∀ args w,(callFunc gf args).run P w=.ok (.enter gf args) w)
 {encs:Nat→Array Value} {Kp:World→World→Prop} {N Bc:Nat} {w0:World} (hseq:K4 F (n - 1) P gf lb encs Kp N Bc w0)
 (hBc:Bc<w.heap.size) (hK0:Kp w0 w) (hKt:∀ {A B C:World},Kp A B→Kp B C→Kp A C) (hKa:∀ (W:World) (o:Obj),w.heap.size≤W.heap.size→Kp W (W.alloc o)) (hKb:∀ (W:World) (l:Nat) (o:Obj),w.heap.size≤l→Kp W (W.putObj l o))
 (hps:∀ k,(encs k).size=ps.size)
 (I:Nat→World→Prop) (hI:DF Bc I) (hIo:∀ k A l o',I k A→w.heap.size≤l→(∃ o,A.heap[l]?=some o∧o.isCells=false)→I k (A.putObj l o')) (h0:I 0 w)
 (hround:∀ (l k:Nat) (W X:World),I k X→k<N→w.heap.size+2≤X.heap.size →
  assign.wpIn (F.inRound l) (n - 1 - 1) P (Exit.then (fun a1 W1=>W1=W∧body.wpIn (F.inRound l) (n - 1 - 1) P (MH w.heap.size Kp I (k+1) X) a1 X) (fun _ _ _=>False))
   {tmps:=(ps.zip (encs k)).foldl (fun t (p,v)=>t.setIfInBounds p v) a.tmps,defers:=[]} W)
 (hdone:∀ (D:Nat) (W:World),w.heap.size≤D→I N W→W.heap[D]?=some (.deferred (some []))→Q .normal {a with defers:={ target:=.collected D,args:=#[]}::a.defers} W) :
 (Code.rangeFunc g ps assign body).wpIn F n P Q a w:=by
 refine wpIn_rangeFunc ?_
 intro fn hfn
 rw [hro]
 let rec_:LoopState→Option Code→Loop:=fun st pe=>{ state:=st,pending:=pe,fn,tmps:=a.tmps,params:=ps,assign,body,defers:=w.heap.size}
 obtain ⟨R,hR⟩:∃ R:LoopState→Option Code→Loop,R=rec_:=⟨_,rfl⟩
 obtain ⟨V,hV⟩:∃ V,V=(w.alloc (.deferred (some []))).alloc (.loop (R .ready none)):=⟨_,rfl⟩
 have vL:V.heap[w.heap.size+1]?=some (.loop (R .ready none)):=by
  have:=World.alloc_heap_new (w.alloc (.deferred (some []))) (.loop (R .ready none))
  rw [World.size_alloc] at this
  rw [hV];exact this
 have vD:V.heap[w.heap.size]?=some (.deferred (some [])):=by rw [hV];exact (Below.heap_alloc _ _ _ aH).trans (World.alloc_heap_new w _)
 have vI:I 0 V:=by rw [hV];exact hI.more _ _ _ (hI.more _ _ _ h0 (World.grownBy_alloc _ _ _)) (World.grownBy_alloc _ _ _)
 have vK:Kp w0 V:=by rw [hV];exact hKt (hKt hK0 (hKa _ _ (cC _))) (hKa _ _ aH)
 refine ⟨w.heap.size+1,[{target:=.collected w.heap.size,args:=#[]}],V,{target:=.fn (.func gf) lb,args:=#[.func (.yield (w.heap.size+1)) #[] #[]]},V,gf,
  #[.func (.yield (w.heap.size+1)) #[] #[]]++lb,V,?_,?_,?_,?_,fun _=>h1,?_⟩
 ·rw [hV,hR];exact run_enterLoop_outer _ _ _ _ _
 ·simp only [resolve,hg];simp [go_sem]
 ·intro f' hf';simp [Target.leads] at hf';subst hf';exact hFg
 ·simp [invoke,go_sem,eg]
 ·let J:Nat→World→Prop:=fun k W=>I k W∧W.heap[w.heap.size+1]?=some (.loop (R .ready none))∧W.heap[w.heap.size]?=some (.deferred (some []))
  have hJ:DF Bc J:=by
   refine ⟨fun k A v ⟨h,hl,hd⟩=>⟨hI.cell _ _ _ h,?_,?_⟩,fun k A A' ⟨h,hl,hd⟩ hgr=>⟨hI.more _ _ _ h hgr,?_,?_⟩⟩
   ·exact (Below.heap_setCell _ _ _ _ (by show w.heap.size+1≠Bc;omega)).trans hl
   ·exact (Below.heap_setCell _ _ _ _ (by show w.heap.size≠Bc;omega)).trans hd
   ·exact (hgr.block _ (Array.getElem?_eq_some_iff.1 hl).1 aH).trans hl
   ·exact (hgr.block _ (Array.getElem?_eq_some_iff.1 hd).1 aH).trans hd
  refine (hseq (w.heap.size+1) J V vK hJ ?_ ⟨vI,vL,vD⟩).mono ?_
  ·rintro k W ⟨hi,hl,hd⟩ hk
   have hlt:w.heap.size+1<W.heap.size:=(Array.getElem?_eq_some_iff.1 hl).1
   have hy:=run_yield (P:=P) (args:=encs k) hl (by rw [hR];exact hps k)
   rw [hR] at hy
   obtain ⟨X,hX⟩:∃ X,X=W.putObj (w.heap.size+1) (.loop {R .ready none with state:=.busy}):=⟨_,rfl⟩
   have xL:X.heap[w.heap.size+1]?=some (.loop {R .ready none with state:=.busy}):=by rw [hX];exact World.putObj_heap_same hlt
   have xD:X.heap[w.heap.size]?=some (.deferred (some [])):=by rw [hX];exact (World.putObj_heap_other (by omega)).trans hd
   have xI:I k X:=by rw [hX];exact hIo _ _ _ _ hi (by omega) ⟨_,hl,rfl⟩
   have xK:Kp W X:=by rw [hX];exact hKb _ _ _ (by omega)
   refine ⟨fn,_,assign,body,hy,roundIn_of_wpIn hfn (wpIn_mono (hround _ k W X xI hk (by rw [hX];simp;omega)) ?_)⟩
   intro e0 a0 W0 DG
   cases e0 with
   | ret=>exact DG
   | exit id=>exact DG
   | goto t=>exact DG
   | panic ch=>exact DG
   | outgrown=>exact DG
   | normal =>
   obtain ⟨rfl,hbd⟩:=DG
   refine ⟨X,by rw [hX];exact run_beginRound hl (by rw [hR]),wpIn_mono hbd ?_⟩
   rintro e a3 Y hp
   cases e with
   | normal =>
    obtain ⟨hf,hkp,ju⟩:=hp
    have yL:=hf.same _ _ ax xL rfl
    have yD:=hf.same _ _ (cC _) xD rfl
    have he:=run_endRound (P:=P) none yL
    refine ⟨_,_,he,rfl,⟨hIo _ _ _ _ ju ax ⟨_,yL,rfl⟩,?_,(World.putObj_heap_other ax).trans yD⟩,hKt (hKt xK hkp) (hKb _ _ _ ax)⟩
    have:=World.putObj_heap_same (w:=Y) (o:=.loop {{R .ready none with state:=LoopState.busy} with state:=if (none:Option Code).isNone then .ready else .done,pending:=none}) (Array.getElem?_eq_some_iff.1 yL).1
    rw [this,hR]
    rfl
   | ret=>exact hp.elim
   | exit id=>exact hp.elim
   | goto t=>exact hp.elim
   | panic ch=>exact hp.elim
   | outgrown=>exact hp.elim
  ·rintro e W2 ⟨⟨v,rfl⟩,hi,hl,hd⟩
   refine ⟨none,_,?_,hdone _ _ (cC _) (hIo _ _ (w.heap.size+1) (.loop {R .ready none with state:=.exhausted}) hi ax ⟨_,hl,rfl⟩) ((World.putObj_heap_other ax).trans hd)⟩
   have:=run_endLoop (P:=P) hl (by rw [hR];simp [rec_])
   rw [this,hR]
end Go
namespace Go
open Go.RowKit
variable {P:Program} {f:FuncId} {args:Array Value} {W:World} {v:Value}
structure Later (W:World) where
 world:World
 below:Below W.heap.size W world
theorem Later.any (W:World):Nonempty (Later W):=⟨⟨W,Below.refl _ _⟩⟩
instance Vp (W:World):Nonempty (Later W):=Later.any W
theorem ay {id:Nat} {Q:Exit→Act→World→Prop} {a:Act} {w:World} {l:List Oper} (hm:P.follows .mixedOrders=true) (hB:Region.lexB .any l.toArray=true)
 (h:wpQuiet P l.toArray (fun w'=>∃ x:Later w,w'=x.world) (fun a'=>∀ x:Later w,Q .normal a' x.world) l a):(Code.region id l.toArray true).wp P Q a w:=by
 have e:(fun a'=>∀ x:Later w,Q .normal a' x.world)=(fun a'=>∀ w',(∃ x:Later w,w'=x.world)→Q .normal a' w'):=by funext a';exact propext ⟨fun h w' ⟨x,hx⟩=>hx▸h x,fun h x=>h _ ⟨x,rfl⟩⟩
 rw [e] at h
 exact wp_region_quiet (C:=fun w'=>∃ x:Later w,w'=x.world) hm hB ⟨⟨_,(Below.refl _ w).drew⟩,rfl⟩ h
theorem Calls.later {x:Later W}
 (h:Calls P f args x.world fun e w'=>e=.returned v∧Below x.world.heap.size x.world w'):Calls P f args x.world fun e w''=>e=.returned v∧∃ y:Later W,w''=y.world :=
 h.mono fun _ w' ⟨he,hb⟩=>⟨he,⟨w',x.below.trans (hb.mono x.below.size)⟩,rfl⟩
theorem Calls.tA {x:Later W}
 (h:Calls P f args x.world fun e w'=>e=.returned v∧x.world=w'):Calls P f args x.world fun e w''=>e=.returned v∧∃ y:Later W,w''=y.world :=
 h.mono fun _ _ ⟨he,hb⟩=>⟨he,x,hb.symm⟩
theorem Later.cell (x:Later W) {a:Addr} (h:W.cell? a=some v):x.world.cell? a=some v :=
 (x.below.cell (World.block_lt_of_cell? W a h)).trans h
def Zl (k:IntKind) (w:World) (a:Option Addr) (len cap:Nat) (zs:List Int):Prop :=
 (a=none∧len=0∧cap=0∧zs=[]) ∨
 ∃ x,a=some x∧len≤cap∧cap≤maxLen∧zs.length=cap∧(∀ i,i<zs.length→w.cell? (x.add i)=some (.int k (zs.getD i 0)))∧∀ n∈zs,(Lit.int k n).wf=true
end Go
namespace Go.Proofs.N0
open Go.RowKit Go.Shelf
variable {L size k:Nat}
attribute [local go_sem] Oper.semAt_some
def Mid (lo hi:Nat) (A B:World):Prop:=∀ k,lo≤k→k<hi→B.heap[k]?=A.heap[k]?
theorem Mid.refl (lo hi:Nat) (A:World):Mid lo hi A A:=fun _ _ _=>rfl
theorem Mid.trans {lo hi:Nat} {A B C:World} (h:Mid lo hi A B) (k:Mid lo hi B C):Mid lo hi A C:=fun i h1 h2=>(k i h1 h2).trans (h i h1 h2)
def DI (L size k:Nat):Nat:=min size (L - k*size)
def uo (L size:Nat):Nat:=(L+size - 1) / size
theorem IK (hs:1≤size) (h:k<uo L size):k*size<L:=by
 unfold uo at h
 have:=(Nat.lt_div_iff_mul_lt (by omega:0<size)).1 h
 omega
theorem Qi (hs:1≤size) (h:uo L size≤k):L≤k*size:=by
 unfold uo at h;by_cases hc:L≤k*size
 ·exact hc
 ·have:k<(L+size - 1) / size:=(Nat.lt_div_iff_mul_lt ax).2 ax;omega
def BoxB (Bb Bc L cap size k:Nat) (w:World):Prop :=
 ∃ a c,w.heap[Bc]?=some (cl #[.slice (some a) (L - k*size) c] 22)∧L - k*size≤c∧c≤cap∧(k*size<L→a=⟨Bb,k*size,none⟩)
def encP (Bb L size k:Nat):Array Value:=#[vI k,vL Bb (k*size) (DI L size k) (DI L size k)]
def VJ (J:Nat→World→Prop) (Bb Bc Bz L cap size:Nat) (iv:Value) (wr:World):Prop :=
 ∃ k:Nat,k≤uo L size∧iv=vI k∧J k wr∧BoxB Bb Bc L cap size k wr∧wr.heap[Bz]?=some (cl #[vI size] 3)
theorem Qj (hs:1≤size):uo L size≤L:=by
 unfold uo;rcases Dr L with rfl|h
 ·simp;omega
 ·refine Nat.le_of_lt_succ ((Nat.div_lt_iff_lt_mul ax).2 ?_);have:L*1≤L*size:=Nat.mul_le_mul_left L hs;rw [Nat.succ_mul];omega
theorem VJ.next {J:Nat→World→Prop} {Bb Bc Bz cap q r:Nat} {W3:World} {old:Value} {a:Addr} {len c:Nat} (hJ:J (k+1) (W3.setCell ⟨Bc,0,none⟩ (.slice (some a) len c))) (hk:k<uo L size)
 (hq:q=k*size) (hr:r=L - q) (hb:W3.heap[Bc]?=some (cl #[old] 22)) (hz:W3.heap[Bz]?=some (cl #[vI size] 3)) (hne:Bc≠Bz)
 (hl:len=r - size) (hc:len≤c) (hcc:c≤cap) (ha:size<r→a=⟨Bb,q+size,none⟩) :
 VJ J Bb Bc Bz L cap size (vI ((k:Int)+1)) (W3.setCell ⟨Bc,0,none⟩ (.slice (some a) len c)):=by
 have e1:(k+1)*size=q+size:=by rw [Nat.succ_mul,hq]
 refine ⟨k+1,hk,by go_num,hJ,⟨a,c,?_,?_,hcc,fun h=>?_⟩,?_⟩
 ·rw [e1,show L - (q+size)=len by omega];exact one_setCell hb
 ·rw [e1];omega
 ·rw [e1] at h ⊢;exact ha ax
 ·exact (Below.heap_setCell _ _ _ _ (by show Bz≠Bc;omega)).trans hz
theorem IL (F:Fence) (n:Nat) (h8:F.fn 138) (hro:F.round=none) (_hn:1≤n) (lo hi Bb Bc Bz L cap size:Nat) (hs1:1≤size) (hs2:size≤1000) (hL:L≤4096) (_hcap:cap≤maxLen)
 (r1:lo≤Bc) (r2:Bc<hi) (r3:lo≤Bz) (r4:Bz<hi) (hne:Bc≠Bz) (w:World) (hB:BoxB Bb Bc L cap size 0 w) (hZ:w.heap[Bz]?=some (cl #[vI size] 3)) :
 K4 F n Tryz.prog 138 #[vP Bc 0,vP Bz 0] (encP Bb L size) (Mid lo hi) (uo L size) Bc w:=by
 intro l J W hW hJ hY h0
 refine callsIn_of_wp Tryz.func138 rfl h8 ?_ hro
 simp only [Tryz.ntmps138,qg,yQ,List.length_nil,Nat.reduceAdd,Nat.reduceSub,Array.replicate_succ,Array.replicate_zero,List.push_toArray,List.append_toArray,bG,bQ]
 gi_wp2
 gi_loopw [4] (fun i wr=>VJ J Bb Bc Bz L cap size i wr) (fun i _=>uo L size - (intOf i).toNat)
 case atStart =>
  obtain ⟨a,c,hb,h1,h2,h3⟩:=hB;exact ⟨0,pR _,rfl,h0,⟨a,c,(hW Bc r1 r2).trans hb,h1,h2,h3⟩,(hW Bz r3 r4).trans hZ⟩
 case round =>
  obtain ⟨k,hk,rfl,hJs,⟨a,c,hb,h1,h2,h3⟩,hz⟩:=hrel;have cB:=cell_of_one hb;have fB:=free_of_one hb;have cZ:=cell_of_one hz;by_cases hlt:k<uo L size
  ·have sH:=IK hs1 hlt;obtain rfl:=h3 sH;obtain ⟨fn,tmps,assign,body,hy,hR⟩:=hY k wr hJs hlt;unfold encP DI at hy;have HN:=Hi hlt;have hk4:k≤4096:=by have:=Qj hs1 (L:=L);omega
   obtain ⟨q,hq⟩:∃ q,q=k*size:=⟨_,rfl⟩
   obtain ⟨r,hr⟩:∃ r,r=L - q:=⟨_,rfl⟩
   have HQ:=Hi hq;have HR:=Hi hr;have HK:=Hi hk;rw [←hq] at hb cB hy h1 sH;rw [←hr] at hb cB hy h1;have hrp:0<r:=ax;have hrl:r≤4096:=ax;clear hq hr hlt sH hk;have hr1:r≤maxLen:=KY;rcases Ds size r with hsr|hsr
   ·rw [Nat.min_eq_left ax] at hy
    have c1:size≤c:=ax
    gi_wp2
    refine hR.mono ?_
    rintro e W3 ⟨rfl,hJ3,hk3⟩
    have hb3:=(hk3 Bc r1 r2).trans hb
    have cB3:=cell_of_one hb3
    have fB3:=free_of_one hb3
    have hz3:=(hk3 Bz r3 r4).trans hz
    have HH:=Hi (And.intro hb3 hz3)
    clear hb hb3 hz hz3 cB fB cZ hy hR
    gi_wp2
    exact SZ
   ·rw [Nat.min_eq_right hsr] at hy;rcases Ds r c with hrc|hrc
    ·rcases Nat.eq_or_lt_of_le hsr with hss|hss
     ·subst hss
      gi_wp2
      refine hR.mono ?_
      rintro e W3 ⟨rfl,hJ3,hk3⟩
      have hb3:=(hk3 Bc r1 r2).trans hb
      have cB3:=cell_of_one hb3
      have fB3:=free_of_one hb3
      have hz3:=(hk3 Bz r3 r4).trans hz
      have HH:=Hi (And.intro hb3 hz3)
      clear hb hb3 hz hz3 cB fB cZ hy hR
      gi_wp2
      exact SZ
     ·gi_wp2
      refine hR.mono ?_
      rintro e W3 ⟨rfl,hJ3,hk3⟩
      have hb3:=(hk3 Bc r1 r2).trans hb
      have cB3:=cell_of_one hb3
      have fB3:=free_of_one hb3
      have hz3:=(hk3 Bz r3 r4).trans hz
      have HH:=Hi (And.intro hb3 hz3)
      clear hb hb3 hz hz3 cB fB cZ hy hR
      gi_wp2
      exact SZ
    ·obtain rfl:r=c:=ax;rcases Nat.eq_or_lt_of_le hsr with hss|hss
     ·subst hss
      gi_wp2
      refine hR.mono ?_
      rintro e W3 ⟨rfl,hJ3,hk3⟩
      have hb3:=(hk3 Bc r1 r2).trans hb
      have cB3:=cell_of_one hb3
      have fB3:=free_of_one hb3
      have hz3:=(hk3 Bz r3 r4).trans hz
      have HH:=Hi (And.intro hb3 hz3)
      clear hb hb3 hz hz3 cB fB cZ hy hR
      gi_wp2
      exact SZ
     ·gi_wp2
      refine hR.mono ?_
      rintro e W3 ⟨rfl,hJ3,hk3⟩
      have hb3:=(hk3 Bc r1 r2).trans hb
      have cB3:=cell_of_one hb3
      have fB3:=free_of_one hb3
      have hz3:=(hk3 Bz r3 r4).trans hz
      have HH:=Hi (And.intro hb3 hz3)
      clear hb hb3 hz hz3 cB fB cZ hy hR
      gi_wp2
      exact SZ
  ·have hge:=Qi hs1 (Nat.le_of_not_lt hlt)
   obtain rfl:k=uo L size:=ax
   have e0:L - uo L size*size=0:=ax
   rw [e0] at cB
   clear hb
   gi_wp2
   go_end0
   exact ⟨⟨_,rfl⟩,hJs⟩
end Go.Proofs.N0
namespace Go.Proofs.N0
open Go.RowKit Go.Shelf
variable {size base e n k id cnt:Nat} {w X:World} {v:Value} {xs:List Value} {s:ByteArray}
attribute [local go_sem] Oper.semAt_some
theorem Fi (a:Option Addr) (len cap:Nat) (size:Int) (w:World) :
 Calls Tryz.prog 106 #[.slice a len cap,vI size] w fun e w' =>
  e=.returned (.func (.func 138) #[] #[vP w.heap.size 0,vP (w.heap.size+1) 0]) ∧
  (w.alloc (cl #[.slice a len cap] 22)).alloc (cl #[vI size] 3)=w':=by
 go_enter Tryz.func106,Tryz.ntmps106
 go_wp2
 go_ret
 exact ⟨rfl,rfl⟩
theorem K5 {L:Nat} (hs:1≤size) (hL:1≤L):((L:Int)+(size:Int) - 1) / (size:Int)=(uo L size:Int):=by unfold uo;rw [show (L:Int)+(size:Int) - 1=((L+size - 1:Nat):Int) from ax,Int.natCast_ediv]
structure CutW (s:ByteArray) (id cnt:Nat) (w W:World):Prop where
 size:W.heap.size=w.heap.size+4
 bid:W.heap[w.heap.size]?=some (cl #[vU id] 31)
 MI:W.heap[w.heap.size+1]?=some (cl #[vI cnt] 3)
 bl:W.heap[w.heap.size+2]?=some (cl #[.slice none 0 0] 160)
 bytes:∀ j (h:j<s.size),W.cell? ⟨w.heap.size+3,j,none⟩=some (.int .u8 (s[j].toNat))
 below:Below w.heap.size w W
theorem cutW (s:ByteArray) (id cnt:Nat) (w:World):CutW s id cnt w (Lib.bytesWorld (((w.alloc (cl #[vU id] 31)).alloc (cl #[vI cnt] 3)).alloc (cl #[.slice none 0 0] 160)) 5 s):=by
 obtain ⟨A,hA⟩:∃ A,A=w.alloc (cl #[vU id] 31):=⟨_,rfl⟩
 obtain ⟨C,hC⟩:∃ C,C=A.alloc (cl #[vI cnt] 3):=⟨_,rfl⟩
 obtain ⟨D,hD⟩:∃ D,D=C.alloc (cl #[.slice none 0 0] 160):=⟨_,rfl⟩
 have sA:A.heap.size=w.heap.size+1:=by rw [hA];simp
 have sC:C.heap.size=w.heap.size+2:=by rw [hC];simp [sA]
 have sD:D.heap.size=w.heap.size+3:=by rw [hD];simp [sC]
 have a0:A.heap[w.heap.size]?=some (cl #[vU id] 31):=by rw [hA];exact heap_alloc_new _ _
 have c1:C.heap[w.heap.size+1]?=some (cl #[vI cnt] 3):=by have:=heap_alloc_new A (cl #[vI cnt] 3);rw [sA] at this;rw [hC];exact this
 have c0:C.heap[w.heap.size]?=some (cl #[vU id] 31):=by rw [hC,Below.heap_alloc _ _ _ (by omega)];exact a0
 have d2:D.heap[w.heap.size+2]?=some (cl #[.slice none 0 0] 160):=by have:=heap_alloc_new C (cl #[.slice none 0 0] 160);rw [sC] at this;rw [hD];exact this
 have d1:D.heap[w.heap.size+1]?=some (cl #[vI cnt] 3):=by rw [hD,Below.heap_alloc _ _ _ (by omega)];exact c1
 have d0:D.heap[w.heap.size]?=some (cl #[vU id] 31):=by rw [hD,Below.heap_alloc _ _ _ (by omega)];exact c0
 have bD:Below w.heap.size w D:=by rw [hD,hC,hA];exact (((Below.refl _ _).alloc (cC _) _).alloc (by simp) _).alloc (by simp;omega) _
 rw [←hA,←hC,←hD];refine ⟨by rw [Lib.bytesWorld_size,sD],?_,?_,?_,fun j hj=>?_,bD.trans (Joins.below_bytesWorld _ _ _ _ ax)⟩
 ·rw [Lib.bytesWorld_at_old _ _ _ _ ax];exact d0
 ·rw [Lib.bytesWorld_at_old _ _ _ _ ax];exact d1
 ·rw [Lib.bytesWorld_at_old _ _ _ _ ax];exact d2
 ·have:=Lib.bytesWorld_cell D 5 s j hj
  rw [sD] at this
  rw [this,ux,lz (by simpa using hj),uy,Array.getElem_toList]
  rfl
def piece (s:ByteArray) (size k:Nat):ByteArray:=⟨((s.data.toList.drop (k*size)).take size).toArray⟩
def kL (s:ByteArray) (id cnt size k:Nat):List Value:=(List.range k).flatMap fun i:Nat=>[vU id,vI (i:Int),vI cnt,.string (piece s size i)]
theorem DJ (s:ByteArray) (id cnt size k:Nat):kL s id cnt size (k+1)=kL s id cnt size k++[vU id,vI k,vI cnt,.string (piece s size k)]:=by simp [kL,List.range_succ,jO]
structure uK (s:ByteArray) (id cnt size:Nat) (w:World) (k:Nat) (W:World):Prop where
 big:w.heap.size+6≤W.heap.size
 bid:W.heap[w.heap.size]?=some (cl #[vU id] 31)
 MI:W.heap[w.heap.size+1]?=some (cl #[vI cnt] 3)
 bl:∃ v,W.heap[w.heap.size+2]?=some (cl #[v] 160)∧W.ownsRow (w.heap.size+6) 116 4 v k (kL s id cnt size k)
 bytes:∀ j (h:j<s.size),W.cell? ⟨w.heap.size+3,j,none⟩=some (.int .u8 (s[j].toNat))
 below:Below w.heap.size w W
theorem jv (h:w.ownsRow base e size v n xs) (hk:v.ownBlock=some k):base≤k∧∃ cur,w.heap[k]?=some (.cells cur e (0,0)):=by
 rcases h.2 with ⟨rfl,_⟩|⟨g,cap,cur,rfl,hg,hh,_⟩
 ·simp [Value.ownBlock] at hk
 ·simp only [Value.ownBlock,Option.some.injEq] at hk;subst hk;exact ⟨hg,cur,hh⟩
theorem uK.kept {A A':World} {row:Option Nat} (h:uK s id cnt size w k A) (hg:A.grownBy A' row)
 (hr:∀ r,row=some r→w.heap.size+6≤r∧∃ o,A.heap[r]?=some o∧o.isCells=false):uK s id cnt size w k A':=by
 have hne:∀ i,i<w.heap.size+6→some i≠row:=fun i hi e=>by have:=(hr i e.symm).1;omega
 have hk:∀ i,i<w.heap.size+6→A'.heap[i]?=A.heap[i]?:=fun i hi=>hg.block i (by have:=h.big;omega) (hne i hi)
 obtain ⟨v,hv,hown⟩:=h.bl
 refine ⟨Fc h.big hg.size,(hk _ ax).trans h.bid,(hk _ ax).trans h.MI,⟨v,(hk _ ax).trans hv,hown.kept hg ?_⟩,fun j hj=>?_,h.below.grown hg (by have:=h.big;omega) (fun r e=>by have:=(hr r e).1;omega)⟩
 ·cases hob:v.ownBlock with
  | none=>exact .inl rfl
  | some b =>
   refine .inr fun e=>?_;obtain ⟨_,cur,hh⟩:=jv hown hob;obtain ⟨_,o,ho,hc⟩:=hr b e.symm;rw [hh] at ho;cases ho;simp [Obj.isCells] at hc
 ·exact (World.cell?_of_block (hk (w.heap.size+3) ax)).trans (h.bytes j hj)
theorem uK.steady (s:ByteArray) (id cnt size:Nat) (w:World):DF (w.heap.size+4) (uK s id cnt size w):=by
 refine ⟨fun k A v h=>?_,fun k A A' h hg=>h.kept hg (fun r e=>by cases e)⟩;obtain ⟨u,hu,hown⟩:=h.bl;have hk:∀ i,i≠w.heap.size+4→(A.setCell ⟨w.heap.size+4,0,none⟩ v).heap[i]?=A.heap[i]?:=fun i hi=>Below.heap_setCell _ _ _ _ hi;exact ⟨by have:=h.big;simpa [World.setCell] using this,(hk _ ax).trans h.bid,(hk _ ax).trans h.MI,⟨u,(hk _ ax).trans hu,ownsRow_setCell_below hown (by show w.heap.size+4<w.heap.size+6;omega) v⟩,
  fun j hj=>(World.cell?_of_block (hk (w.heap.size+3) ax)).trans (h.bytes j hj),h.below.setCell (by show w.heap.size≤w.heap.size+4;omega) _⟩
theorem uK.push {w1:World} {v':Value} {tmp:Obj} (h:uK s id cnt size w k X) (hv:X.heap[w.heap.size+2]?=some (cl #[v] 160))
 (hown:X.ownsRow (w.heap.size+6) 116 4 v k (kL s id cnt size k))
 (hown':w1.ownsRow (w.heap.size+6) 116 4 v' (k+1) (kL s id cnt size k++[vU id,vI k,vI cnt,.string (piece s size k)])) (hg:(X.alloc tmp).grownBy w1 v.ownBlock) :
 (∃ g' cap',v'=vL g' 0 (k+1) cap')∧w1.cell? ⟨w.heap.size+2,0,none⟩=some v∧w1.frozen? ⟨w.heap.size+2,0,none⟩=false ∧
 (KeepsFrom (w.heap.size+6) X (w1.setCell ⟨w.heap.size+2,0,none⟩ v')∧Mid (w.heap.size+3) (w.heap.size+6) X (w1.setCell ⟨w.heap.size+2,0,none⟩ v')∧uK s id cnt size w (k+1) (w1.setCell ⟨w.heap.size+2,0,none⟩ v')):=by
 have hbig:=h.big
 have hex:∃ g' cap',v'=vL g' 0 (k+1) cap':=by exact Y7
 have hne:∀ i,i<w.heap.size+6→some i≠v.ownBlock:=fun i hi e=>by have:=(jv hown e.symm).1;omega
 have hk:∀ i,i<w.heap.size+6→w1.heap[i]?=X.heap[i]?:=fun i hi =>
  (hg.block i aR (hne i hi)).trans (Below.heap_alloc _ _ _ ax)
 have hk2:∀ i,i<w.heap.size+6→i≠w.heap.size+2→(w1.setCell ⟨w.heap.size+2,0,none⟩ v').heap[i]?=X.heap[i]?:=fun i hi h2=>(Below.heap_setCell _ _ _ _ h2).trans (hk i hi)
 have hv1:=(hk (w.heap.size+2) ax).trans hv
 have hsz:X.heap.size≤w1.heap.size:=by have:=hg.size;simp at this;omega
 refine ⟨hex,cell_of_one hv1,free_of_one hv1,⟨by simpa [World.setCell] using hsz,fun i o hi ho hc=>?_⟩,fun i h1 h2=>hk2 i h2 ax,⟨by simp [World.setCell];omega,(hk2 _ ax ax).trans h.bid,(hk2 _ ax ax).trans h.MI,⟨v',one_setCell hv1,?_⟩,fun j hj=>?_,?_⟩⟩
 ·refine (Below.heap_setCell _ _ _ _ (by show i≠w.heap.size+2;omega)).trans ((hg.block i (by have:=(Array.getElem?_eq_some_iff.1 ho).1;simp;omega) (fun e=>?_)).trans ((Below.heap_alloc _ _ _ (Array.getElem?_eq_some_iff.1 ho).1).trans ho));obtain ⟨_,cur,hh⟩:=jv hown e.symm;rw [hh] at ho;cases ho;simp [Obj.isCells] at hc
 ·rw [DJ];exact ownsRow_setCell_below hown' (by show w.heap.size+2<w.heap.size+6;omega) v'
 ·exact (World.cell?_of_block (hk2 (w.heap.size+3) ax ax)).trans (h.bytes j hj)
 ·exact ((h.below.alloc ax tmp).grown hg aR (fun r e=>by
   have:=(jv hown e).1;omega)).setCell (by show w.heap.size≤w.heap.size+2;omega) _
def Fj:Value:=.agg #[vU 0,vI 0,vI 0,.string ⟨#[]⟩]
theorem Qk:(Tryz.prog.info? 116).map (fun i=>(i.zero,i.size,i.bytes))=some (some Fj,4,40):=aI
def VN (s:ByteArray) (id size:Nat) (w:World) (e:Ending) (w':World):Prop :=
 ∃ v,e=.returned (.tuple #[v,vI 0])∧w'.ownsRow w.heap.size 116 4 v (uo s.size size) (kL s id (uo s.size size) size (uo s.size size))∧Below w.heap.size w w'
theorem _root_.Go.World.ownsRow.wider {base':Nat} (h:w.ownsRow base e size v n xs) (hb:base'≤base):w.ownsRow base' e size v n xs:=by
 obtain ⟨h1,h2⟩:=h;refine ⟨h1,?_⟩;rcases h2 with h2|⟨g,cap,cur,hv,hg,r⟩
 ·exact .inl h2
 ·exact .inr ⟨g,cap,cur,hv,ax,r⟩
theorem IM (h:uK s id cnt size w k X) (_hs:1≤size) (hk:k*size<s.size) :
 (convert 22 9 (vL (w.heap.size+3) (k*size) (DI s.size size k) (DI s.size size k))).run Tryz.prog X=.ok (.string (piece s size k)) X:=by
 have hl:((s.data.toList.drop (k*size)).take size).length=DI s.size size k:=by simp [DI]
 have:=run_convert_bytes_back (P:=Tryz.prog) X 22 9 5 ⟨w.heap.size+3,k*size,none⟩ (DI s.size size k) ((s.data.toList.drop (k*size)).take size) Tryz.underlying22 Tryz.underlying5 Tryz.underlying9 (fun j hj=>by
  rw [hl] at hj;unfold DI at hj;rw [Go.WideShapes.add_plain,h.bytes (k*size+j) ax];simp;rfl)
 rw [hl] at this
 exact this
theorem uK.start {W:World} (h:CutW s id cnt w W) (o1 o2:Obj) (size:Nat):uK s id cnt size w 0 ((W.alloc o1).alloc o2):=by
 have hs:=h.size;have hk:∀ i,i<W.heap.size→((W.alloc o1).alloc o2).heap[i]?=W.heap[i]?:=fun i hi=>(Below.heap_alloc _ _ _ aR).trans (Below.heap_alloc _ _ _ hi);exact ⟨aR,(hk _ ax).trans h.bid,(hk _ ax).trans h.MI,⟨_,(hk _ ax).trans h.bl,by simpa [kL] using World.ownsRow_nil _ _ _ _⟩,
  fun j hj=>(World.cell?_of_block (hk (w.heap.size+3) ax)).trans (h.bytes j hj),(h.below.alloc ax _).alloc aR _⟩
theorem Ql (s:ByteArray) (id size:Nat) (w:World) (h1:1≤id) (h2:id≤4294967296) (h3:1≤size) (h4:size≤1000) (h5:1≤s.size) (h6:s.size≤4096) (h7:uo s.size size≤16) :
 CallsIn Fence.wide 9 Tryz.prog 67 #[.string s,vU id,vI size] w (VN s id size w):=by
 have hcv:=fun (w:World) (t:ByteArray)=>Lib.run_convert_string_bytes (P:=Tryz.prog) w 9 22 5 t Tryz.underlying9 Tryz.underlying22 Tryz.underlying5
 have hdiv:=K5 h3 h5
 have HC:=Hi (cutW s id (uo s.size size) w)
 obtain ⟨c,hc⟩:∃ c,c=grownCap (((w.alloc (cl #[vU id] 31)).alloc (cl #[vI (uo s.size size)] 3)).alloc (cl #[.slice none 0 0] 160)) s.size 0 5:=⟨_,rfl⟩
 have hcl:s.size≤c:=by rw [hc];exact grownCap_ge _ _ _ _
 have hcm:c≤maxLen:=by rw [hc];exact grownCap_le_maxLen _ _ _ _ (by unfold maxLen;omega)
 have HCC:=Hi hc
 clear hc
 refine callsIn_of_wp_marks Tryz.func67 rfl trivial ?_ rfl
 simp only [Tryz.ntmps67,qg,yQ,List.length_nil,Nat.reduceAdd,Nat.reduceSub,Array.replicate_succ,Array.replicate_zero,List.push_toArray,List.append_toArray,bG,bQ]
 gi_wp2_with fail
 rw [←HCC.out]
 have HC':=HC.out
 generalize Lib.bytesWorld (((w.alloc (cl #[vU id] 31)).alloc (cl #[vI (uo s.size size)] 3)).alloc (cl #[.slice none 0 0] 160)) 5 s=W4 at HC' ⊢
 clear HC HCC hdiv hcv
 have HW:=Hi HC';have hsz:=HC'.size;clear HC'
 refine ⟨trivial,?_⟩
 refine (callsIn_wide.2 (Fi _ _ _ _ _)).mono ?_
 rintro e w' ⟨rfl,rfl⟩
 gi_wp2_with fail
 have hB4:=heap_alloc_new W4 (cl #[vL (w.heap.size+1+1+1) 0 s.size c] 22)
 have hB5:=heap_alloc_new (W4.alloc (cl #[vL (w.heap.size+1+1+1) 0 s.size c] 22)) (cl #[vI size] 3)
 rw [World.size_alloc] at hB5
 have VO:=(Below.heap_alloc (W4.alloc (cl #[vL (w.heap.size+1+1+1) 0 s.size c] 22)) (cl #[vI size] 3) W4.heap.size aH).trans hB4
 have HI0:=Hi (uK.start HW.out (cl #[vL (w.heap.size+1+1+1) 0 s.size c] 22) (cl #[vI size] 3) size)
 have hs5:((W4.alloc (cl #[vL (w.heap.size+1+1+1) 0 s.size c] 22)).alloc (cl #[vI size] 3)).heap.size=w.heap.size+6:=by simp [hsz]
 generalize (W4.alloc (cl #[vL (w.heap.size+1+1+1) 0 s.size c] 22)).alloc (cl #[vI size] 3)=W5 at *
 rw [hsz] at hB5 VO
 have hp1:=Qj (L:=s.size) h3
 refine ql rfl ax (gf:=138) (lb:=#[vP (w.heap.size+4) 0,vP (w.heap.size+4+1) 0]) rfl trivial (enters_of Tryz.func138 aI rfl)
  (IL Fence.wide 8 trivial rfl ax (w.heap.size+3) (w.heap.size+6) (w.heap.size+3) (w.heap.size+4) (w.heap.size+4+1) s.size c size h3 h4 h6 hcm ax ax ax ax ax W5 ⟨⟨w.heap.size+3,0,none⟩,c,by simpa using VO,ax,cC _,fun _=>aH⟩ hB5)
  (ax) (Mid.refl _ _ _) Mid.trans (fun W o h=>fun i h1 h2=>Below.heap_alloc _ _ _ ax) (fun W l o h=>fun i h1 h2=>World.putObj_heap_other ax) (fun _=>rfl)
  (uK s id (uo s.size size) size w) (uK.steady _ _ _ _ _) (fun k A l o' h hl ho=>h.kept (grownBy_putObj' A l o') (fun r e=>by cases e;exact ⟨by omega,ho⟩)) HI0.out ?round ?done
 case round =>
  intro l k W X hi hk hX
  have yV:=IM hi h3 (IK h3 hk)
  have hbig:=hi.big
  obtain ⟨v,hv,hown⟩:=hi.bl
  have c0:=cell_of_one hi.bid
  have c1:=cell_of_one hi.MI
  have c2:=cell_of_one hv
  obtain ⟨HI,HV,HK⟩:=ju hi hv hk
  clear hi hv hk hB4 hB5 VO
  obtain ⟨i0,mE,hz0,hz1,hz2⟩:=info_parts Qk
  unfold encP
  gi_wp2
  refine ⟨trivial,?_⟩
  gi_wp2_with (gi_at_builtin;refine wpListIn_append_own _ rfl _ _ 160 rfl (w.heap.size+6) 116 i0 Fj 4 40 Tryz.underlying160 mE hz0 hz1 hz2 rfl aG _ _ _ rfl (hown.alloc _) ⟨X.heap.size,0,none⟩ 1 1 [vU id,vI k,vI (uo s.size size),.string (piece s size k)] rfl rfl ?c1 ?c2 ?c3 ?c4 ?c5 ?_)
  case c1 =>
   intro j u hj;rw [show (⟨X.heap.size,0,none⟩:Addr).add j=⟨X.heap.size,0+j,none⟩ from Go.WideShapes.add_plain _ _ _,bF,World.cell?_alloc_mark];simpa using hj
  case c2=>intro u hu;simp at hu;rcases hu with rfl|rfl|rfl|rfl<;>rfl
  case c3=>have:=HK.out;unfold maxLen;omega
  case c4=>have:=HK.out;omega
  case c5=>simp;omega
  intro v' w1 hown' hgrow _
  obtain ⟨⟨g',cap',rfl⟩,cW,fW,hend⟩:=HI.out.push HV.out hown hown' hgrow
  have HE:=Hi hend
  clear hown' hgrow hown hend yV c2
  gi_wp2
  exact HE.out
 case done =>
  intro D W hD hi hd
  have hbig:=hi.big
  obtain ⟨v,hv,hown⟩:=hi.bl
  have c2:=cell_of_one hv
  obtain ⟨HI,HV,HO,HD⟩:=hi4 hi hv hown hd
  clear hi hv hown hd hB4 hB5 VO
  gi_wp2
  refine ⟨aH,.inl ⟨_,_,rfl,run_takeDeferred HD.out,?_⟩⟩
  exact ⟨_,results_tmp2 rfl _ _ _,v,rfl,(ownsRow_putObj HO.out _ HD.out rfl).wider ax,HI.out.below.trans (belowK_b (w:=w) (cC _) W D _ _ ax HD.out rfl rfl)⟩
end Go.Proofs.N0
namespace Go.Proofs.N0
open Go.RowKit
def fragV (f:af.bC):Value:=.agg (jg f)
theorem mF (id:Nat) (index count:Int) (part:ByteArray) (w:World) :
 Calls Tryz.prog 79 #[.agg #[vU id,vI index,vI count,.string part]] w fun e w'=>e=.returned (.bool (af.bC.right ⟨id,index,count,part.data.toList⟩))∧Below w.heap.size w w':=by
 go_enter Tryz.func79,Tryz.ntmps79
 go_wp2
 all_goals
  go_ret
  exact ⟨gH (by rw [Bool.eq_iff_iff,af.eH];simp [af.bC.ok];omega),(Below.refl _ _).alloc (cC _) _⟩
end Go.Proofs.N0
namespace af
def many (L size:Nat):Nat:=(L+size - 1) / size
def gw (s:List UInt8) (id size:Nat):List bC:=(List.range (many s.length size)).map fun i:Nat=>⟨id,i,many s.length size,(s.drop (i*size)).take size⟩
def cut (s:List UInt8) (id:Nat) (size:Int):List bC×Nat :=
 if id<1∨4294967296<id∨size<1∨1000<size∨s.length<1∨4096<s.length then ([],1)
 else if 16<many s.length size.toNat then ([],4)
 else (gw s id size.toNat,0)
end af
namespace Go.Proofs.N0
open Go.RowKit Go.Shelf
def dH (f:af.bC):List Value:=[vU f.id,vI f.index,vI f.count,vS f.part]
theorem Fk (s:ByteArray) (id size:Nat):kL s id (uo s.size size) size (uo s.size size)=(af.gw s.data.toList id size).flatMap dH:=by simp [kL,af.gw,af.many,uo,List.flatMap_map,dH,piece]
theorem VP (s:ByteArray) (id:Nat) (size:Int) (w:World) (h:id<1∨4294967296<id∨size<1∨1000<size∨s.size<1∨4096<s.size) :
 Calls Tryz.prog 67 #[.string s,vU id,vI size] w fun e w'=>e=.returned (.tuple #[.slice none 0 0,vI 1])∧Below w.heap.size w w':=by
 by_cases a1:id<1
 ·have d1:decide ((id:Int)<1)=true:=aR;exact Gl
 ·have d1:decide ((id:Int)<1)=false:=aR;by_cases a2:4294967296<id
  ·have d2:decide ((4294967296:Int)<id)=true:=aR;exact Gl
  ·have d2:decide ((4294967296:Int)<id)=false:=aR;by_cases a3:size<1
   ·have d3:decide (size<1)=true:=aR;exact Gl
   ·have d3:decide (size<1)=false:=aR;by_cases a4:1000<size
    ·have d4:decide (1000<size)=true:=aR;exact Gl
    ·have d4:decide (1000<size)=false:=aR;by_cases a5:s.size<1
     ·have d5:decide ((s.size:Int)<1)=true:=aR;exact Gl
     ·have d5:decide ((s.size:Int)<1)=false:=aR;have d6:decide ((4096:Int)<s.size)=true:=aR;have h6:4096<s.size:=ax;exact Gl
theorem Qm (s:ByteArray) (id size:Nat) (w:World) (h1:1≤id) (h2:id≤4294967296) (h3:1≤size) (h4:size≤1000) (h5:1≤s.size) (h6:s.size≤4096) (h7:16<uo s.size size) :
 Calls Tryz.prog 67 #[.string s,vU id,vI size] w fun e w'=>e=.returned (.tuple #[.slice none 0 0,vI 4])∧Below w.heap.size w w':=by
 have hdiv:=K5 h3 h5
 go_enter Tryz.func67,Tryz.ntmps67
 go_wp2
 go_ret2
 exact ⟨rfl,((Below.refl _ _).alloc (cC _) _).alloc aH _⟩
def CutsTo (fs:List af.bC) (er:Nat) (w:World) (e:Ending) (w':World):Prop :=
 ∃ v,e=.returned (.tuple #[v,vI er])∧w'.ownsRow w.heap.size 116 4 v fs.length (fs.flatMap dH)∧Below w.heap.size w w'
theorem cut_as {s:ByteArray} {id:Nat} {size:Int} {fs:List af.bC} {er:Nat} (hc:af.cut s.data.toList id size=(fs,er)) (w:World) :
 Calls Tryz.prog 67 #[.string s,vU id,vI size] w (CutsTo fs er w):=by
 unfold af.cut at hc
 have hl:s.data.toList.length=s.size:=aH
 rw [hl] at hc
 split at hc
 ·rename_i h;obtain ⟨rfl,rfl⟩:=Prod.mk.inj hc;exact (VP s id size w h).mono fun e w' ⟨he,hb⟩=>⟨_,he,World.ownsRow_nil _ _ _ _,hb⟩
 ·rename_i h;obtain ⟨n,rfl⟩:=cR (show 0≤size by omega);have hp:uo s.size n=af.many s.size n:=rfl;split at hc
  ·rename_i h';obtain ⟨rfl,rfl⟩:=Prod.mk.inj hc;exact (Qm s id n w ax ax ax ax ax ax (by simpa [hp] using h')).mono fun e w' ⟨he,hb⟩=>⟨_,he,World.ownsRow_nil _ _ _ _,hb⟩
  ·rename_i h';obtain ⟨rfl,rfl⟩:=Prod.mk.inj hc;refine (callsIn_wide.1 (Ql s id n w ax ax ax ax ax ax (by rw [hp];simpa using h'))).mono ?_;rintro e w' ⟨v,he,hown,hb⟩;refine ⟨v,he,?_,hb⟩;rw [Fk] at hown;have:(af.gw s.data.toList id n).length=uo s.size n:=by simp [af.gw,hp]
   simpa [this] using hown
end Go.Proofs.N0
