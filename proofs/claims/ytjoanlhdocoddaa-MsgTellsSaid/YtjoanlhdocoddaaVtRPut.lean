/- The walk of soughref01.Put. -/
import Derived.Test.YtjoanlhdocoddaaVtPut
namespace Go.Proofs.Ytjoanlhdocoddaa
open Go.RowKit

/-- What the loop's slots hold. -/
def RPutSt (n B : Nat) (w : World) (nv sv : Value) (wr : World) : Prop :=
  ∃ (f x : Nat) (l : List UInt8), x < 18446744073709551616 ∧ f ≤ 9 ∧ x < 128 ^ f ∧ l.length + f ≤ 10 ∧ nv = .int .u64 x ∧ sv = .string ⟨l.toArray⟩ ∧ Sough.put n = Sough.putHi f x ++ l ∧ Below B w wr

theorem bytes_append (a b : List UInt8) : (⟨a.toArray⟩ : ByteArray) ++ ⟨b.toArray⟩ = ⟨(a ++ b).toArray⟩ := by
  apply ByteArray.ext; simp

theorem RPutSt.next {n B f x : Nat} {l : List UInt8} {w wr : World} (hxf : x < 128 ^ f) (hx : x < 18446744073709551616) (hf : f ≤ 9) (hl : l.length + f ≤ 10) (h0 : 0 < x) (hp : Sough.put n = Sough.putHi f x ++ l) (hb : Below B w wr) :
    RPutSt n B w (.int .u64 ((x : Int) / 128)) (.string (⟨#[128 + UInt8.ofNat (x % 128)]⟩ ++ ⟨l.toArray⟩)) wr := by
  cases f with
  | zero => simp at hxf; omega
  | succ f =>
    refine ⟨f, x / 128, UInt8.ofNat (128 + x % 128) :: l, by omega, by omega, by rw [Nat.pow_succ] at hxf; omega, by simp; omega, by simp, ?_, ?_, hb⟩
    · rw [show (128 : UInt8) + UInt8.ofNat (x % 128) = UInt8.ofNat (128 + x % 128) from Sough.u8_ext (by rw [UInt8.toNat_add, Sough.u8_of _ (by omega), Sough.u8_of _ (by omega)]; show (128 + x % 128) % 256 = _; omega)]
      exact congrArg Value.string (bytes_append [_] l)
    · rw [hp, Sough.putHi_succ f (by omega)]; simp

/-- 'string([]byte{x})'. -/
theorem conv_one (W : World) (x : Int) : (convert 43 9 (.slice (some ⟨W.heap.size, 0, none⟩) 1 1)).run Try.prog (W.alloc (.cells #[.int .u8 x] 5)) = .ok (.string ⟨#[UInt8.ofNat x.toNat]⟩) (W.alloc (.cells #[.int .u8 x] 5)) := by
  rw [run_convert_bytes_string _ 43 9 5 _ _ _ Try.underlying43 Try.underlying5 Try.underlying9]
  have hl := run_loadCells_list (P := Try.prog) (W.alloc (.cells #[.int .u8 x] 5)) ⟨W.heap.size, 0, none⟩ ([x].map (Value.int .u8)) (fun j v hj => by
    match j, hj with
    | 0, hj => simp at hj; subst hj; simp [Addr.add])
  exact (run_bytesToString _ _ 1 1 [x] hl).trans rfl

set_option maxRecDepth 100000 in
set_option maxHeartbeats 800000 in
theorem rput_walk (n : Nat) (w : World) (hn : n < 18446744073709551616) :
    Calls Try.prog 36 #[.int .u64 n] w fun e w' => e = .returned (.string ⟨(Sough.put n).toArray⟩) ∧ Below w.heap.size w w' := by
  have hcv := conv_one
  have HN := Lib.hid hn
  go_enter Try.func36, Try.ntmps36
  go_wp2
  go_loopw [0, 3] (fun nv sv wr => RPutSt n w.heap.size w nv sv wr) (fun i _ _ => (intOf i).toNat)
  case atStart =>
    clear hcv
    exact ⟨9, n / 128, [UInt8.ofNat (n % 128)], by omega, by omega, by have : (128 : Nat) ^ 9 = 9223372036854775808 := by decide
                                                                       omega, by simp, by go_num, rfl, rfl, (Below.refl _ _).alloc (Nat.le_refl _) _⟩
  case round =>
    obtain ⟨f, x, l, hx, hf, hxf, hlf, rfl, rfl, hput, hbel⟩ := hrel
    have HX := Lib.hid hxf; have HP := Lib.hid hput; have HB := Lib.hid hbel
    clear hn hxf hput hbel
    by_cases h0 : 0 < x
    · go_wp2
      refine ⟨RPutSt.next HX.out hx hf hlf h0 HP.out (HB.out.alloc (by have := HB.out.size; omega) _), ?_⟩
      simp [intOf]; omega
    · go_wp2
      go_ret
      refine ⟨?_, HB.out⟩
      have h1 : x = 0 := by omega
      have h2 := HP.out
      rw [h1, Sough.putHi_zero, List.nil_append] at h2
      rw [h2]; rfl

end Go.Proofs.Ytjoanlhdocoddaa
