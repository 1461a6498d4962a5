/- PointTurns: its chains, evaluated; the law's walk. -/
import Derived.Test.YtnkbpigjdojakaaGreatLPtTurns
namespace af
def rY (n k:Nat):Bool :=
 (nt tS tA0 0 n tX).isSome&&(tL n k).isSome&&(tG n k).isSome&&(nt (tg n k).1 (tg n k).2.1 0 n tX).isSome&&(tM n k).isSome&&(tO n k).isSome&&(to n k).2.2.1.out.isSome&&decide ((to n k).2.2.2=0)&&(tP n k).isSome&&(tp n k).2.2.1.out.isNone&&decide ((tp n k).2.2.2=0)&&decide ((tp n k).2.2.1.h=(to n k).2.2.1.h)&&decide (0<(to n k).2.2.1.h)&&decide (dM (tp n k).2.1 0=some [(to n k).2.2.1.h]) &&
 decide ((n=k∧(tg n k).2.2.2=9∧(tg n k).2.2.1.h=0∧dM (tg n k).2.1 0=some [])∨(n≠k∧(tg n k).2.2.2=0∧0<(tg n k).2.2.1.h))
theorem PE:rY 0 0=true:=eU
theorem PG:rY 0 1=true:=eU
theorem PI:rY 1 0=true:=eU
theorem PJ:rY 1 1=true:=eU
end af
namespace Go.Proofs.N0
open Go.RowKit Go.Maps Go.ChangeMaps af
theorem pN {n k size tu sl:Nat} {sz:Int} (h:rY n k=true) (W:World) (hn:(tu:Int) % 2=(n:Int)) (hk:(sl:Int) % 2=(k:Int)) (hn2:n<2) (hs:(8:Int)+(size:Int)=sz) (hb:size<256∧tu<256∧sl<256) :
 Calls Tryz.prog 5 #[.int .u8 size,.int .u8 tu,.int .u8 sl] W fun e w'=>e=.returned (.bool true)∧Below W.heap.size W w':=by
 unfold rY at h
 simp only [gi,decide_eq_true_eq] at h
 obtain ⟨⟨⟨⟨⟨⟨⟨⟨⟨⟨⟨⟨⟨⟨h0,h1⟩,h2⟩,h3⟩,h4⟩,h5⟩,h6⟩,h7⟩,h8⟩,h9⟩,h10⟩,h11⟩,h12⟩,yJ⟩,Ae⟩:=h
 have hz:8≤sz∧sz≤1000:=ax
 exact PD W (getD_eq h0) (Im (g:=tl n k) rfl h1) (getD_eq h2) (getD_eq h3) (Im (g:=tm n k) rfl h4) (Dp (g:=to n k) rfl h5 h6 rfl h7 rfl rfl rfl rfl rfl) (mg (g:=tp n k) rfl h8 h9 h10 rfl rfl rfl h11 rfl) h12 yJ Ae hz hn hk hn2 hs hb (Dd (one:=[1]) (two:=[1]) W aG aG aG aG hz.1 hz.2)
theorem yC (a b c:Int) (W:World) (wa:(Lit.int .u8 a).wf=true) (wb:(Lit.int .u8 b).wf=true) (wc:(Lit.int .u8 c).wf=true) :
 Calls Tryz.prog 5 #[.int .u8 a,.int .u8 b,.int .u8 c] W fun e w'=>e=.returned (.bool true)∧Below W.heap.size W w':=by
 have b0:=bounds_u8 wa
 have b1:=bounds_u8 wb
 have b2:=bounds_u8 wc
 obtain ⟨x,rfl⟩:=Fc b0.1
 obtain ⟨y,rfl⟩:=Fc b1.1
 obtain ⟨z,rfl⟩:=Fc b2.1
 rcases Nat.mod_two_eq_zero_or_one y with hx|hx<;>rcases Nat.mod_two_eq_zero_or_one z with hy|hy
 ·exact pN PE W ax ax aG rfl ax
 ·exact pN PG W ax ax aG rfl ax
 ·exact pN PI W ax ax aG rfl ax
 ·exact pN PJ W ax ax aG rfl ax
end Go.Proofs.N0
