/- The walks of the laws VintDigits, VintMost and VintShort. -/
import Derived.Test.YtnolpbkeheiadaaVtOrder
import Derived.StillTailTactics
namespace Go.Proofs.Ytnolpbkeheiadaa
open Go.RowKit

theorem mk_getElem (a : Array UInt8) (i : Nat) (h : i < (⟨a⟩ : ByteArray).size) : (⟨a⟩ : ByteArray)[i]'h = a[i]'h := rfl
theorem put_small {n : Nat} (h : n < 128) : Sough.put n = [UInt8.ofNat n] := by
  unfold Sough.put
  rw [show n / 128 = 0 by omega, Sough.putHi_zero, show n % 128 = n by omega]
  rfl
theorem put_big {n : Nat} (h : 128 ≤ n) (hn : n < 18446744073709551616) : ∃ (q : List UInt8) (x y c : UInt8), q.length ≤ 9 ∧ Sough.put (n / 128) = q ++ [c] ∧ Sough.put n = q ++ [x, y] ∧ x.toNat = c.toNat + 128 ∧ y.toNat = n % 128 := by
  have h9 : (128 : Nat) ^ 9 = 9223372036854775808 := by decide
  have h8 : (128 : Nat) ^ 8 = 72057594037927936 := by decide
  refine ⟨Sough.putHi 9 (n / 128 / 128), UInt8.ofNat (128 + n / 128 % 128), UInt8.ofNat (n % 128), UInt8.ofNat (n / 128 % 128), Sough.putHi_len_le _ _, rfl, ?_, ?_, Sough.u8_of _ (by omega)⟩
  · unfold Sough.put
    rw [Sough.putHi_succ 8 (by omega), Sough.putHi_fuel 8 9 (n / 128 / 128) (by omega) (by omega)]
    simp
  · rw [Sough.u8_of _ (by omega), Sough.u8_of _ (by omega)]; omega

/-- The front of a text, and the byte behind it. -/
theorem cut_front (q r : List UInt8) (W : World) : (Instr.slice 9 (.string ⟨(q ++ r).toArray⟩) none (some (.int .i64 (q.length : Int))) none).run Try.prog W = .ok (.string ⟨q.toArray⟩) W := by
  have h := extract_eq ⟨(q ++ r).toArray⟩ 0 q.length
  rw [Nat.zero_add] at h
  refine (run_slice_string_h W 9 ⟨(q ++ r).toArray⟩ Try.underlying9 .i64 (q.length : Int) (by omega) (by show (q.length : Int) ≤ ((q ++ r).toArray.size : Int); simp; omega)).trans ?_
  rw [Int.toNat_natCast, h]
  simp
theorem at_front (q : List UInt8) (x : UInt8) (r : List UInt8) (W : World) : (Instr.index 9 (.string ⟨(q ++ x :: r).toArray⟩) (.int .i64 (q.length : Int))).run Try.prog W = .ok (.int .u8 x.toNat) W := by
  rw [run_index_string (h := Try.underlying9), dif_pos (show 0 ≤ (q.length : Int) ∧ (q.length : Int) < ((⟨(q ++ x :: r).toArray⟩ : ByteArray).size : Int) from ⟨by omega, by show (q.length : Int) < ((q ++ x :: r).toArray.size : Int); simp; omega⟩)]
  simp [mk_getElem]

set_option maxRecDepth 100000 in
set_option maxHeartbeats 1600000 in
theorem vintDigits_walk (n : Int) (w : World) (wn : (Lit.int .u64 n).wf = true) :
    Calls Try.prog 9 #[.int .u64 n] w fun e w' => e = .returned (.bool true) ∧ Below w.heap.size w w' := by
  obtain ⟨n, rfl, hn⟩ := wf_u64 wn
  have HN := Lib.hid hn
  have hmk := mk_getElem
  rcases Nat.lt_or_ge n 128 with h | h
  · clear wn hn
    have HU := Lib.hid (Sough.u8_of n (by omega))
    go_enter Try.func9, Try.ntmps9
    go_wp2_with fail
    refine (put_as (put_small h) rfl HN.out _).mono ?_; rintro e w1 ⟨rfl, hb1⟩
    go_wp2_with fail
    refine (put_as (n := 0) (l := [0]) (by decide) (by omega) (by decide) _).mono ?_; rintro e w2 ⟨rfl, hb2⟩
    go_wp2_with fail
    refine (fixed_walk _).mono ?_; rintro e w3 ⟨rfl, hb3⟩
    go_wp2_with fail
    go_ret
    exact ⟨rfl, ext_trans (ext_trans hb1 hb2) hb3⟩
  · obtain ⟨q, x, y, c, hq, e1, e2, e3, e4⟩ := put_big h hn
    have hx := Sough.u8_lt x
    have hy := Sough.u8_lt y
    have hc := Sough.u8_lt c
    have f0 : ((y.toNat : Int) != (n : Int) % 128) = false := by simp only [bne_eq_false_iff_eq]; omega
    have f1 : IntKind.i64.wrap ((q.length : Int) + 1 + 1) = (q.length : Int) + 2 := by rw [IntKind.wrap_i64]; omega
    have f2 : IntKind.i64.wrap (c.toNat : Int) = c.toNat := by rw [IntKind.wrap_i64]; omega
    have f3 : IntKind.i64.wrap (x.toNat : Int) = x.toNat := by rw [IntKind.wrap_i64]; omega
    have f4 : IntKind.i64.wrap ((c.toNat : Int) + 128) = (c.toNat : Int) + 128 := by rw [IntKind.wrap_i64]; omega
    have f5 : ((x.toNat : Int) == (c.toNat : Int) + 128) = true := by simp only [beq_iff_eq]; omega
    have g1 := fun W => cut_front q [x, y] W
    have g2 := fun W => cut_front q [c] W
    have g3 := fun W => at_front q x [y] W
    have g4 := fun W => at_front q c [] W
    have E1 := Lib.hid e1; have E2 := Lib.hid e2; clear e1 e2 e3 e4
    clear wn
    go_enter Try.func9, Try.ntmps9
    go_wp2_with fail
    refine (put_as E2.out rfl HN.out _).mono ?_; rintro e w1 ⟨rfl, hb1⟩
    go_wp2_with fail
    refine (put_as E1.out (by push_cast; rfl) (by have := HN.out; omega) _).mono ?_; rintro e w2 ⟨rfl, hb2⟩
    go_wp2_with fail
    go_still_tail 28, (by kernel_rfl)
    change wpList _ _ _ _ _ w2.drew
    have hb2' : Below w1.heap.size w1 w2.drew := hb2.drew
    generalize w2.drew = w2' at *
    go_wp2_with (go_at_call 15; refine (fixed_walk _).mono ?_; rintro e w3 ⟨rfl, hb3⟩)
    go_ret
    exact ⟨rfl, ext_trans (ext_trans hb1 hb2') hb3⟩

end Go.Proofs.Ytnolpbkeheiadaa
