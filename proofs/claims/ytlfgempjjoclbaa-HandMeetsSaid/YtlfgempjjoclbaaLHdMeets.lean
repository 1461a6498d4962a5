/- The walk of HandMeets: all ways. (Of the bytes that came in a slice; their number's bound is the form's own reach.) -/
import Derived.Test.YtlfgempjjoclbaaLHdMeets00
import Derived.Test.YtlfgempjjoclbaaLHdMeets01
import Derived.Test.YtlfgempjjoclbaaLHdMeets10
import Derived.Test.YtlfgempjjoclbaaLHdMeets11
namespace Go.Proofs.Ytlfgempjjoclbaa
open Go.RowKit Go.Maps Go.ChangeMaps

theorem bytesIn_of {W : World} {a : Option Addr} {len cap : Nat} {zs : List Int} (h : IsRow .u8 W a len cap zs) : BytesIn W a len fun i => (zs.getD i 0).toNat := by
  intro i hi
  rcases h with ⟨_, h, _⟩ | ⟨x, rfl, hl, hm, hz, hc, hw⟩
  · omega
  · obtain ⟨b, off, rfl, hc'⟩ := ints_at hc (by omega)
    have hiz : i < zs.length := by omega
    have hb : 0 ≤ zs.getD i 0 ∧ zs.getD i 0 ≤ 255 := by
      rw [List.getD_eq_getElem?_getD, List.getElem?_eq_getElem hiz, Option.getD_some]
      exact bounds_u8 (hw _ (List.getElem_mem hiz))
    have hcell := hc' i hiz
    have hlt : (zs.getD i 0).toNat < 256 := by
      revert hb; generalize zs.getD i 0 = z; intro hb; omega
    refine ⟨b, off, rfl, World.block_lt_of_cell? W _ hcell, ?_, hlt⟩
    rw [hcell, Int.toNat_of_nonneg hb.1]

theorem handMeets_walk (a0 : Option Addr) (len0 cap0 : Nat) (z0 : List Int) (a1 : Option Addr) (len1 cap1 : Nat) (z1 : List Int) (s : Int) (W : World) (w0 : IsRow .u8 W a0 len0 cap0 z0) (w1 : IsRow .u8 W a1 len1 cap1 z1) (ws : (Lit.int .u64 s).wf = true) (r0 : len0 ≤ 140737488355328) (r1 : len1 ≤ 140737488355328) :
    Calls Try.prog 8 #[.slice a0 len0 cap0, .slice a1 len1 cap1, .int .u64 s] W fun e w' => e = .returned (.bool true) ∧ Below W.heap.size W w' := by
  have bs := bounds_u64 ws
  obtain ⟨n, rfl⟩ := Int.eq_ofNat_of_zero_le bs.1
  have hk : ((len0 : Int) + (len1 : Int)) % 2 = (((len0 + len1) % 2 : Nat) : Int) := by omega
  rcases Nat.lt_or_ge 8 len0 with c0 | c0 <;> rcases Nat.lt_or_ge 8 len1 with c1 | c1
  · exact meets_11 (bytesIn_of w0) (bytesIn_of w1) r0 r1 hk (by omega) c0 c1
  · exact meets_10 (bytesIn_of w0) (bytesIn_of w1) r0 r1 hk (by omega) c0 c1
  · exact meets_01 (bytesIn_of w0) (bytesIn_of w1) r0 r1 hk (by omega) c0 c1
  · exact meets_00 (bytesIn_of w0) (bytesIn_of w1) r0 r1 hk (by omega) c0 c1

end Go.Proofs.Ytlfgempjjoclbaa
