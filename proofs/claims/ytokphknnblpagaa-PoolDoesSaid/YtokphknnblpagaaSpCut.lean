/- The walk of split.Cut's iterator (split.pieces and its closure). -/
import Derived.Test.YtokphknnblpagaaRows
import Derived.Test.YtokphknnblpagaaCount
import Derived.Test.YtokphknnblpagaaRegion
import Derived.Shelf.Abstract
import Derived.Shelf.RegionOpen
import Derived.WalkKit
import Derived.OwnWalkIn
import Derived.TacticsInMore
import Derived.LoopNIn
import Derived.LoopIn
import Derived.RangeFuncBox
import Derived.Maps.AppendAt
import Derived.OneCell
import Derived.Lib.Hide
namespace Go.Proofs.Ytokphknnblpagaa
open Go.RowKit Go.Shelf
attribute [local go_sem] Oper.semAt_some

/-- The blocks from lo to hi lie as they lay. -/
def Mid (lo hi : Nat) (A B : World) : Prop := ∀ k, lo ≤ k → k < hi → B.heap[k]? = A.heap[k]?
theorem Mid.refl (lo hi : Nat) (A : World) : Mid lo hi A A := fun _ _ _ => rfl
theorem Mid.trans {lo hi : Nat} {A B C : World} (h : Mid lo hi A B) (k : Mid lo hi B C) : Mid lo hi A C := fun i h1 h2 => (k i h1 h2).trans (h i h1 h2)

/-- The length of piece k. -/
def plen (L size k : Nat) : Nat := min size (L - k * size)
/-- How many pieces. -/
def pcs (L size : Nat) : Nat := (L + size - 1) / size
theorem pcs_lt {L size k : Nat} (hs : 1 ≤ size) (h : k < pcs L size) : k * size < L := by
  unfold pcs at h
  have := (Nat.lt_div_iff_mul_lt (by omega : 0 < size)).1 h
  omega
theorem pcs_ge {L size k : Nat} (hs : 1 ≤ size) (h : pcs L size ≤ k) : L ≤ k * size := by
  unfold pcs at h
  by_cases hc : L ≤ k * size
  · exact hc
  · have : k < (L + size - 1) / size := (Nat.lt_div_iff_mul_lt (by omega)).2 (by omega)
    omega

/-- What the iterator's variable holds behind k pieces. -/
def BoxB (Bb Bc L cap size k : Nat) (w : World) : Prop :=
  ∃ a c, w.heap[Bc]? = some (.cells #[.slice (some a) (L - k * size) c] 50 (0, 0)) ∧ L - k * size ≤ c ∧ c ≤ cap ∧ (k * size < L → a = ⟨Bb, k * size, none⟩)

def encP (Bb L size k : Nat) : Array Value := #[.int .i64 k, .slice (some ⟨Bb, k * size, none⟩) (plen L size k) (plen L size k)]

def PcSt (J : Nat → World → Prop) (Bb Bc Bz L cap size : Nat) (iv : Value) (wr : World) : Prop :=
  ∃ k : Nat, k ≤ pcs L size ∧ iv = .int .i64 k ∧ J k wr ∧ BoxB Bb Bc L cap size k wr ∧ wr.heap[Bz]? = some (.cells #[.int .i64 size] 3 (0, 0))

theorem pcs_le {L size : Nat} (hs : 1 ≤ size) : pcs L size ≤ L := by
  unfold pcs
  rcases Nat.eq_zero_or_pos L with rfl | h
  · simp; omega
  · refine Nat.le_of_lt_succ ((Nat.div_lt_iff_lt_mul (by omega)).2 ?_)
    have : L * 1 ≤ L * size := Nat.mul_le_mul_left L hs
    rw [Nat.succ_mul]; omega

theorem PcSt.next {J : Nat → World → Prop} {Bb Bc Bz L cap size k q r : Nat} {W3 : World} {old : Value} {a : Addr} {len c : Nat} (hJ : J (k + 1) (W3.setCell ⟨Bc, 0, none⟩ (.slice (some a) len c))) (hk : k < pcs L size)
    (hq : q = k * size) (hr : r = L - q) (hb : W3.heap[Bc]? = some (.cells #[old] 50 (0, 0))) (hz : W3.heap[Bz]? = some (.cells #[.int .i64 size] 3 (0, 0))) (hne : Bc ≠ Bz)
    (hl : len = r - size) (hc : len ≤ c) (hcc : c ≤ cap) (ha : size < r → a = ⟨Bb, q + size, none⟩) :
    PcSt J Bb Bc Bz L cap size (.int .i64 ((k : Int) + 1)) (W3.setCell ⟨Bc, 0, none⟩ (.slice (some a) len c)) := by
  have e1 : (k + 1) * size = q + size := by rw [Nat.succ_mul, hq]
  refine ⟨k + 1, hk, by go_num, hJ, ⟨a, c, ?_, ?_, hcc, fun h => ?_⟩, ?_⟩
  · rw [e1, show L - (q + size) = len by omega]; exact one_setCell hb
  · rw [e1]; omega
  · rw [e1] at h ⊢; exact ha (by omega)
  · exact (Below.heap_setCell _ _ _ _ (by show Bz ≠ Bc; omega)).trans hz

set_option maxRecDepth 100000 in
set_option maxHeartbeats 3200000 in
theorem pieces1_in (F : Fence) (n : Nat) (h8 : F.fn 28) (hro : F.round = none) (_hn : 1 ≤ n) (lo hi Bb Bc Bz L cap size : Nat) (hs1 : 1 ≤ size) (hs2 : size ≤ 1000) (hL : L ≤ 4096) (_hcap : cap ≤ maxLen)
    (r1 : lo ≤ Bc) (r2 : Bc < hi) (r3 : lo ≤ Bz) (r4 : Bz < hi) (hne : Bc ≠ Bz) (w : World) (hB : BoxB Bb Bc L cap size 0 w) (hZ : w.heap[Bz]? = some (.cells #[.int .i64 size] 3 (0, 0))) :
    CountIt F n Try.prog 28 #[.pointer (some ⟨Bc, 0, none⟩), .pointer (some ⟨Bz, 0, none⟩)] (encP Bb L size) (Mid lo hi) (pcs L size) Bc w := by
  intro l J W hW hJ hY h0
  refine callsIn_of_wp Try.func28 rfl h8 ?_ hro
  simp only [Try.ntmps28, List.size_toArray, List.length_cons, List.length_nil, Nat.reduceAdd, Nat.reduceSub, Array.replicate_succ, Array.replicate_zero, List.push_toArray, List.append_toArray, List.nil_append, List.cons_append]
  gi_wp2
  gi_loopw [4] (fun i wr => PcSt J Bb Bc Bz L cap size i wr) (fun i _ => pcs L size - (intOf i).toNat)
  case atStart =>
    obtain ⟨a, c, hb, h1, h2, h3⟩ := hB
    exact ⟨0, Nat.zero_le _, rfl, h0, ⟨a, c, (hW Bc r1 r2).trans hb, h1, h2, h3⟩, (hW Bz r3 r4).trans hZ⟩
  case round =>
    obtain ⟨k, hk, rfl, hJs, ⟨a, c, hb, h1, h2, h3⟩, hz⟩ := hrel
    have cB := cell_of_one hb
    have fB := free_of_one hb
    have cZ := cell_of_one hz
    by_cases hlt : k < pcs L size
    · have hkl := pcs_lt hs1 hlt
      obtain rfl := h3 hkl
      obtain ⟨fn, tmps, assign, body, hy, hR⟩ := hY k wr hJs hlt
      unfold encP plen at hy
      have HN := Lib.hid hlt
      have hk4 : k ≤ 4096 := by have := pcs_le hs1 (L := L); omega
      obtain ⟨q, hq⟩ : ∃ q, q = k * size := ⟨_, rfl⟩
      obtain ⟨r, hr⟩ : ∃ r, r = L - q := ⟨_, rfl⟩
      have HQ := Lib.hid hq
      have HR := Lib.hid hr
      have HK := Lib.hid hk
      rw [← hq] at hb cB hy h1 hkl
      rw [← hr] at hb cB hy h1
      have hrp : 0 < r := by omega
      have hrl : r ≤ 4096 := by omega
      clear hq hr hlt hkl hk
      have hr1 : r ≤ maxLen := by unfold maxLen; omega
      rcases Nat.lt_or_ge size r with hsr | hsr
      · rw [Nat.min_eq_left (by omega)] at hy
        have c1 : size ≤ c := by omega
        gi_wp2
        refine hR.mono ?_
        rintro e W3 ⟨rfl, hJ3, hk3⟩
        have hb3 := (hk3 Bc r1 r2).trans hb
        have cB3 := cell_of_one hb3
        have fB3 := free_of_one hb3
        have hz3 := (hk3 Bz r3 r4).trans hz
        have HH := Lib.hid (And.intro hb3 hz3)
        clear hb hb3 hz hz3 cB fB cZ hy hR
        gi_wp2
        exact ⟨PcSt.next (hJ.cell _ _ _ hJ3) HN.out HQ.out HR.out HH.out.1 HH.out.2 hne (by omega) (by omega) (by omega) (by intro hx; first | rfl | omega), by simp [intOf]; have := HN.out; omega⟩
      · rw [Nat.min_eq_right hsr] at hy
        rcases Nat.lt_or_ge r c with hrc | hrc
        · rcases Nat.eq_or_lt_of_le hsr with hss | hss
          · subst hss
            gi_wp2
            refine hR.mono ?_
            rintro e W3 ⟨rfl, hJ3, hk3⟩
            have hb3 := (hk3 Bc r1 r2).trans hb
            have cB3 := cell_of_one hb3
            have fB3 := free_of_one hb3
            have hz3 := (hk3 Bz r3 r4).trans hz
            have HH := Lib.hid (And.intro hb3 hz3)
            clear hb hb3 hz hz3 cB fB cZ hy hR
            gi_wp2
            exact ⟨PcSt.next (hJ.cell _ _ _ hJ3) HN.out HQ.out HR.out HH.out.1 HH.out.2 hne (by omega) (by omega) (by omega) (by intro hx; first | rfl | omega), by simp [intOf]; have := HN.out; omega⟩
          · gi_wp2
            refine hR.mono ?_
            rintro e W3 ⟨rfl, hJ3, hk3⟩
            have hb3 := (hk3 Bc r1 r2).trans hb
            have cB3 := cell_of_one hb3
            have fB3 := free_of_one hb3
            have hz3 := (hk3 Bz r3 r4).trans hz
            have HH := Lib.hid (And.intro hb3 hz3)
            clear hb hb3 hz hz3 cB fB cZ hy hR
            gi_wp2
            exact ⟨PcSt.next (hJ.cell _ _ _ hJ3) HN.out HQ.out HR.out HH.out.1 HH.out.2 hne (by omega) (by omega) (by omega) (by intro hx; first | rfl | omega), by simp [intOf]; have := HN.out; omega⟩
        · obtain rfl : r = c := by omega
          rcases Nat.eq_or_lt_of_le hsr with hss | hss
          · subst hss
            gi_wp2
            refine hR.mono ?_
            rintro e W3 ⟨rfl, hJ3, hk3⟩
            have hb3 := (hk3 Bc r1 r2).trans hb
            have cB3 := cell_of_one hb3
            have fB3 := free_of_one hb3
            have hz3 := (hk3 Bz r3 r4).trans hz
            have HH := Lib.hid (And.intro hb3 hz3)
            clear hb hb3 hz hz3 cB fB cZ hy hR
            gi_wp2
            exact ⟨PcSt.next (hJ.cell _ _ _ hJ3) HN.out HQ.out HR.out HH.out.1 HH.out.2 hne (by omega) (by omega) (by omega) (by intro hx; first | rfl | omega), by simp [intOf]; have := HN.out; omega⟩
          · gi_wp2
            refine hR.mono ?_
            rintro e W3 ⟨rfl, hJ3, hk3⟩
            have hb3 := (hk3 Bc r1 r2).trans hb
            have cB3 := cell_of_one hb3
            have fB3 := free_of_one hb3
            have hz3 := (hk3 Bz r3 r4).trans hz
            have HH := Lib.hid (And.intro hb3 hz3)
            clear hb hb3 hz hz3 cB fB cZ hy hR
            gi_wp2
            exact ⟨PcSt.next (hJ.cell _ _ _ hJ3) HN.out HQ.out HR.out HH.out.1 HH.out.2 hne (by omega) (by omega) (by omega) (by intro hx; first | rfl | omega), by simp [intOf]; have := HN.out; omega⟩
    · have hge := pcs_ge hs1 (Nat.le_of_not_lt hlt)
      obtain rfl : k = pcs L size := by omega
      have e0 : L - pcs L size * size = 0 := by omega
      rw [e0] at cB
      clear hb
      gi_wp2
      go_end0
      exact ⟨⟨_, rfl⟩, hJs⟩

end Go.Proofs.Ytokphknnblpagaa
