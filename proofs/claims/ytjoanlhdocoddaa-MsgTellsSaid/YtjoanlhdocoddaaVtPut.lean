/- The walks of vint.Put, of its closure, and of soughref01.Put. -/
import Derived.Test.YtjoanlhdocoddaaVtGet
import Derived.Test.YtjoanlhdocoddaaVtPutPlain
import Derived.OneCell
namespace Go.Proofs.Ytjoanlhdocoddaa
open Go.RowKit

def bytesV (l : List UInt8) : List Value := l.map fun c => .int .u8 c.toNat

/-- The memory of one call of vint.Put: the number, how many bytes it has, the slice's variable, and the slice. -/
structure PInv (B n many : Nat) (v : Value) (l : List UInt8) (w : World) : Prop where
  hn : w.heap[B]? = some (.cells #[.int .u64 n] 22 (0, 0))
  hm : w.heap[B + 1]? = some (.cells #[.int .i64 many] 3 (0, 0))
  hb : w.heap[B + 2]? = some (.cells #[v] 43 (0, 0))
  own : w.ownsRow (B + 3) 5 1 v l.length (bytesV l)

theorem PInv.push {B n many : Nat} {l : List UInt8} {wr w1 : World} {v v' : Value} {y : Int} (h : PInv B n many v l wr) (x : UInt8) (hy : y = (x.toNat : Int)) (tmp : Obj)
    (hown' : w1.ownsRow (B + 3) 5 1 v' (l.length + 1) (bytesV l ++ [.int .u8 y])) (hgrow : (wr.alloc tmp).grownBy w1 v.ownBlock) :
    (∃ g' cap', v' = .slice (some ⟨g', 0, none⟩) (l.length + 1) cap') ∧ w1.cell? ⟨B + 2, 0, none⟩ = some v ∧ w1.frozen? ⟨B + 2, 0, none⟩ = false ∧ PInv B n many v' (l ++ [x]) (w1.setCell ⟨B + 2, 0, none⟩ v') ∧ Below B wr (w1.setCell ⟨B + 2, 0, none⟩ v') := by
  subst hy
  have hBw := lt_of_block h.hb
  have hne : ∀ k, k < B + 3 → some k ≠ v.ownBlock := fun k hk e => by
    rcases h.own.2 with ⟨rfl, _⟩ | ⟨g, cap, cur, rfl, hg, hh, _⟩
    · simp [Value.ownBlock] at e
    · simp only [Value.ownBlock, Option.some.injEq] at e
      omega
  have keep : ∀ k, k < B + 3 → w1.heap[k]? = wr.heap[k]? := fun k hk =>
    (hgrow.block k (by simp; omega) (hne k hk)).trans (Below.heap_alloc _ _ _ (by omega))
  have hb1 := (keep (B + 2) (by omega)).trans h.hb
  have hex : ∃ g' cap', v' = .slice (some ⟨g', 0, none⟩) (l.length + 1) cap' := by
    rcases hown'.2 with ⟨_, h0⟩ | ⟨g', cap', _, h, _⟩
    · omega
    · exact ⟨g', cap', h⟩
  refine ⟨hex, cell_of_one hb1, free_of_one hb1, ⟨?_, ?_, one_setCell hb1, ?_⟩, ?_⟩
  · exact (Below.heap_setCell _ _ _ _ (by show B ≠ B + 2; omega)).trans ((keep B (by omega)).trans h.hn)
  · exact (Below.heap_setCell _ _ _ _ (by show B + 1 ≠ B + 2; omega)).trans ((keep (B + 1) (by omega)).trans h.hm)
  · have := ownsRow_setCell_below hown' (a := ⟨B + 2, 0, none⟩) (by show B + 2 < B + 3; omega) v'
    simpa [bytesV] using this
  · exact (((Below.refl B wr).alloc (by omega) tmp).grown hgrow (by simp; omega) (fun k hk => by
      rcases Nat.lt_or_ge k B with h' | h'
      · exact absurd hk.symm (hne k (by omega))
      · exact h')).setCell (by show B ≤ B + 2; omega) _

theorem info5 : (Try.prog.info? 5).map (fun i => (i.zero, i.size, i.bytes)) = some (some (.int .u8 0), 1, 1) := by kernel_rfl

open Sough (dig)
theorem dig_lt (n many i : Nat) : dig n many i < 256 := by unfold dig; split <;> omega
theorem u64_and127 (x : Nat) (h : x < 18446744073709551616) : bits .and .u64 (x : Int) 127 = (x : Int) % 128 := bits_mask .u64 64 (by decide) wraps_u64 7 (by decide) x (by omega) (by omega)
theorem u8_or_128 (y : Nat) (h : y < 128) : bits .or .u8 (y : Int) 128 = (y : Int) + 128 :=
  bits_join_low .u8 8 (by decide) wraps_u8 7 y 128 (by omega) (by omega) (by omega) (by decide) (by decide) (by decide)
theorem dig_last {n many i : Nat} (hn : n < 18446744073709551616) (h : many ≤ i + 1) : bits .and .u64 (n : Int) 127 % 256 = ((UInt8.ofNat (dig n many i)).toNat : Int) := by
  rw [u64_and127 _ hn, Sough.u8_of _ (dig_lt _ _ _)]
  unfold dig
  rw [if_neg (by omega), show many - 1 - i = 0 by omega]
  clear hn h
  simp only [Nat.mul_zero, Nat.pow_zero, Nat.div_one, Nat.add_zero]
  omega
theorem dig_more {n many i : Nat} (hn : n < 18446744073709551616) (h : i + 1 < many) : bits .or .u8 (bits .and .u64 ((n : Int) / 2 ^ (7 * (many - 1 - i))) 127 % 256) 128 = ((UInt8.ofNat (dig n many i)).toNat : Int) := by
  have hp : (n : Int) / 2 ^ (7 * (many - 1 - i)) = ((n / 2 ^ (7 * (many - 1 - i)) : Nat) : Int) := by push_cast; rfl
  have hq : ((n / 2 ^ (7 * (many - 1 - i)) : Nat) : Int) % 128 % 256 = ((n / 2 ^ (7 * (many - 1 - i)) % 128 : Nat) : Int) := by omega
  rw [hp, u64_and127 _ (Nat.lt_of_le_of_lt (Nat.div_le_self _ _) hn), hq, u8_or_128 _ (by omega), Sough.u8_of _ (dig_lt _ _ _)]
  unfold dig
  rw [if_pos h]
  exact (Int.natCast_add _ 128).symm

def Put1Post (B n many : Nat) (l : List UInt8) (c : UInt8) (w : World) (e : Ending) (w' : World) : Prop :=
  e = .returned (.tuple #[]) ∧ (∃ v', PInv B n many v' (l ++ [c]) w') ∧ Below B w w'

set_option maxRecDepth 100000 in
set_option maxHeartbeats 800000 in
theorem put1_walk (B n many i : Nat) (v : Value) (l : List UInt8) (w : World) (hn : n < 18446744073709551616) (h : PInv B n many v l w) (hl : l.length ≤ 100) (hm : many ≤ 10) (hi : i < many) :
    Calls Try.prog 44 #[.int .i64 i, .pointer (some ⟨B, 0, none⟩), .pointer (some ⟨B + 1, 0, none⟩), .pointer (some ⟨B + 2, 0, none⟩)] w (Put1Post B n many l (UInt8.ofNat (dig n many i)) w) := by
  obtain ⟨i0, hinf, hz0, hz1, hz2⟩ := info_parts info5
  have HN := Lib.hid hn; clear hn
  have c0 := cell_of_one h.hn
  have c1 := cell_of_one h.hm
  have c2 := cell_of_one h.hb
  have hown := h.own
  have hsz : B + 2 < w.heap.size := lt_of_block h.hb
  have H := Lib.hid h; clear h
  rcases Nat.lt_or_ge (i + 1) many with hlt | hlt
  · go_enter Try.func44, Try.ntmps44
    go_wp2_with (at_builtin; refine wpList_append_own _ rfl _ _ 43 rfl (B + 3) 5 i0 (.int .u8 0) 1 1 Try.underlying43 hinf hz0 hz1 hz2 rfl (by decide) _ _ _ rfl (hown.alloc _) ⟨w.heap.size, 0, none⟩ 1 1 [.int .u8 (bits .or .u8 (bits .and .u64 ((n : Int) / 2 ^ (7 * (many - 1 - i))) 127 % 256) 128)] rfl rfl ?c1 ?c2 ?c3 ?c4 ?c5 ?_)
    case c1 =>
      intro j u hj
      match j, hj with
      | 0, hj => simp at hj; subst hj; simp [Addr.add]
    case c2 => intro u hu; simp at hu; subst hu; rfl
    case c3 => unfold maxLen; omega
    case c4 => omega
    case c5 => simp; omega
    intro v' w2 hown' hgrow' _
    obtain ⟨⟨g', cap', rfl⟩, cW2, fW2, hinv', hbel⟩ := H.out.push (UInt8.ofNat (dig n many i)) (dig_more HN.out hlt) _ hown' hgrow'
    have HI := Lib.hid hinv'; have HB := Lib.hid hbel
    clear hown' hgrow' hown hinv' hbel
    go_wp2
    go_end0
    exact ⟨rfl, ⟨_, HI.out⟩, HB.out⟩
  · go_enter Try.func44, Try.ntmps44
    go_wp2_with (at_builtin; refine wpList_append_own _ rfl _ _ 43 rfl (B + 3) 5 i0 (.int .u8 0) 1 1 Try.underlying43 hinf hz0 hz1 hz2 rfl (by decide) _ _ _ rfl (hown.alloc _) ⟨w.heap.size, 0, none⟩ 1 1 [.int .u8 (bits .and .u64 (n : Int) 127 % 256)] rfl rfl ?d1 ?d2 ?d3 ?d4 ?d5 ?_)
    case d1 =>
      intro j u hj
      match j, hj with
      | 0, hj => simp at hj; subst hj; simp [Addr.add]
    case d2 => intro u hu; simp at hu; subst hu; rfl
    case d3 => unfold maxLen; omega
    case d4 => omega
    case d5 => simp; omega
    intro v' w2 hown' hgrow' _
    obtain ⟨⟨g', cap', rfl⟩, cW2, fW2, hinv', hbel⟩ := H.out.push (UInt8.ofNat (dig n many i)) (dig_last HN.out hlt) _ hown' hgrow'
    have HI := Lib.hid hinv'; have HB := Lib.hid hbel
    clear hown' hgrow' hown hinv' hbel
    go_wp2
    go_end0
    exact ⟨rfl, ⟨_, HI.out⟩, HB.out⟩

theorem len64_any (n : Nat) (hn : n < 18446744073709551616) (w : World) : Calls Try.prog 38 #[.int .u64 n] w fun e w' => ∃ m : Nat, m ≤ 64 ∧ (Sough.put n).length = max 1 ((m + 6) / 7) ∧ e = .returned (.int .i64 m) ∧ w = w' :=
  (Try.bits_Len64 n w (by omega) (by omega)).mono fun _ _ ⟨he, hw⟩ => ⟨Lib.bitLen n, Sough.bitLenAux_le _ _, Sough.put_length hn, by rw [he]; simp, hw.symm⟩

/-- What the loop's slot and the memory hold. -/
def PutSt (B n : Nat) (w : World) (iv : Value) (wr : World) : Prop := ∃ k : Nat, k ≤ (Sough.put n).length ∧ iv = .int .i64 k ∧ (∃ v, PInv B n (Sough.put n).length v ((Sough.put n).take k) wr) ∧ Below B w wr

theorem bytesRow_of_own {w : World} {B : Nat} {v : Value} {l : List UInt8} (h : w.ownsRow B 5 1 v l.length (bytesV l)) (h0 : 0 < l.length) :
    ∃ g cap, v = .slice (some ⟨g, 0, none⟩) l.length cap ∧ ∀ j (hj : j < l.length), w.cell? ((⟨g, 0, none⟩ : Addr).add j) = some (.int .u8 (l[j].toNat : Int)) := by
  have hc := fun g (hg : v.ownBlock = some g) => h.cells hg
  rcases h.2 with ⟨_, h1⟩ | ⟨g, cap, cur, hv, _⟩
  · omega
  · refine ⟨g, cap, hv, fun j hj => hc g (by rw [hv]; rfl) j _ ?_⟩
    simp [bytesV, hj]

set_option maxRecDepth 100000 in
set_option maxHeartbeats 800000 in
theorem put_walk (n : Nat) (w : World) (hn : n < 18446744073709551616) :
    Calls Try.prog 33 #[.int .u64 n] w fun e w' => e = .returned (.string ⟨(Sough.put n).toArray⟩) ∧ Below w.heap.size w w' := by
  have hL := Sough.put_len n
  have HN := Lib.hid hn; clear hn
  go_enter Try.func33, Try.ntmps33
  go_wp2_with (go_at_call 38; refine (len64_any _ HN.out _).mono ?_; rintro e w' ⟨m, hm, hml, rfl, rfl⟩; have HML := Lib.hid hml; clear hml)
  rw [show max 1 (((m : Int) + 7 - 1) / 7) = ((Sough.put n).length : Int) from by rw [HML.out]; omega]
  clear HML hm
  go_loopw [15] (fun iv wr => PutSt w.heap.size n w iv wr) (fun i _ => (Sough.put n).length - (intOf i).toNat)
  case atStart =>
    refine ⟨0, by omega, rfl, ⟨_, ⟨?_, ?_, ?_, World.ownsRow_nil _ _ _ _⟩⟩, (((Below.refl _ _).alloc (Nat.le_refl _) _).alloc (by simp) _).alloc (by simp; omega) _⟩
    · rw [Below.heap_alloc _ _ _ (by simp; omega), Below.heap_alloc _ _ _ (by simp)]; exact heap_alloc_new _ _
    · rw [Below.heap_alloc _ _ _ (by simp)]; simpa using heap_alloc_new (w.alloc _) _
    · simpa using heap_alloc_new ((w.alloc _).alloc _) _
  case round =>
    obtain ⟨k, hk, rfl, ⟨v, hinv⟩, hbel⟩ := hrel
    have HI := Lib.hid hinv; have HB := Lib.hid hbel
    have hb2 := cell_of_one hinv.hb
    by_cases hlt : k < (Sough.put n).length
    · have hll : ((Sough.put n).take k).length ≤ 100 := by simp; omega
      clear hinv hbel
      go_wp2_with (go_at_call 44; refine (put1_walk w.heap.size n _ k v _ _ HN.out HI.out hll hL.2 hlt).mono ?_; rintro e w' ⟨rfl, hp, hb'⟩; have HP := Lib.hid hp; have HB' := Lib.hid hb'; clear hp hb')
      go_roundw
      case rel => exact ⟨k + 1, hlt, by go_num, by rw [Sough.put_get hlt]; exact HP.out, HB.out.trans HB'.out⟩
      case measure => simp [intOf]; omega
    · rw [List.take_of_length_le (by omega)] at hinv
      obtain ⟨g, cap, rfl, hcells⟩ := bytesRow_of_own hinv.own (by omega)
      have hconv := run_convert_bytes_back (P := Try.prog) wr 43 9 5 ⟨g, 0, none⟩ cap _ Try.underlying43 Try.underlying5 Try.underlying9 hcells
      clear hcells hinv hbel
      go_wp2
      go_ret
      exact ⟨rfl, HB.out⟩

end Go.Proofs.Ytjoanlhdocoddaa
