/- The walks of vint.Get and soughref01.Get. -/
import Derived.Test.YtjoanlhdocoddaaRows
import Derived.Test.YtjoanlhdocoddaaShelf
import Derived.Test.YtjoanlhdocoddaaVtPlain
import Derived.WalkKit
import Derived.WalkSpells
import Derived.WalkLawsBesides
import Derived.Deep.QuietTactic
import Derived.BigQuiet
import Derived.Lib.ConvBytes
import Derived.Lib.SmallJoins
import Derived.Lib.EndianBits
import Derived.Lib.Hide
namespace Go.Proofs.Ytjoanlhdocoddaa
open Go.RowKit

/-- The loop's relation. -/
def GetRel (s : ByteArray) (k j n : Nat) : Prop := Sough.getL k 0 0 (s.data.toList.drop k) = Sough.getL k (j - k) n (s.data.toList.drop j)
theorem toList_get (s : ByteArray) (j : Nat) (h : j < s.size) : s.data.toList[j]'(by simpa using h) = s[j] := by rw [Array.getElem_toList]; rfl
theorem drop_get (s : ByteArray) (j : Nat) (h : j < s.size) : s.data.toList.drop j = s[j] :: s.data.toList.drop (j + 1) := by
  rw [List.drop_eq_getElem_cons (by simpa using h), toList_get s j h]
theorem GetRel.err {s : ByteArray} {k j n : Nat} (h : GetRel s k j n) (hj : j < s.size) (hc : (j = k ∧ s[j].toNat = 128) ∨ 144115188075855871 < n) : Sough.getL k 0 0 (s.data.toList.drop k) = (0, 0, 3) := by
  unfold GetRel at h
  rw [h, drop_get s j hj, Sough.getL, if_pos (by rcases hc with ⟨h1, h2⟩ | h1; exact Or.inl ⟨by omega, h2⟩; exact Or.inr h1)]
theorem GetRel.done {s : ByteArray} {k j n : Nat} (h : GetRel s k j n) (_hk : k ≤ j) (hj : j < s.size) (_h1 : ¬ (j = k ∧ s[j].toNat = 128)) (_h2 : n ≤ 144115188075855871) (h3 : s[j].toNat < 128) :
    Sough.getL k 0 0 (s.data.toList.drop k) = (n * 128 + s[j].toNat % 128, j + 1, 0) := by
  unfold GetRel at h
  rw [h, drop_get s j hj, Sough.getL, if_neg (by omega), if_pos h3]
  congr 2; omega
theorem GetRel.next {s : ByteArray} {k j n : Nat} (h : GetRel s k j n) (_hk : k ≤ j) (hj : j < s.size) (_h1 : ¬ (j = k ∧ s[j].toNat = 128)) (_h2 : n ≤ 144115188075855871) (_h3 : 128 ≤ s[j].toNat) :
    GetRel s k (j + 1) (n * 128 + s[j].toNat % 128) := by
  unfold GetRel at h ⊢
  rw [h, drop_get s j hj, Sough.getL, if_neg (by omega), if_neg (by omega)]
  congr 1; omega
theorem GetRel.fin {s : ByteArray} {k j n : Nat} (h : GetRel s k j n) (hj : s.size ≤ j) : Sough.getL k 0 0 (s.data.toList.drop k) = (0, 0, 2) := by
  unfold GetRel at h
  rw [h, List.drop_eq_nil_of_le (by simpa using hj), Sough.getL]
/-- What the loop's slots hold. -/
def GetSt (s : ByteArray) (k : Nat) (nv iv : Value) : Prop := ∃ j n : Nat, k ≤ j ∧ j ≤ s.size ∧ n < 18446744073709551616 ∧ nv = .int .u64 n ∧ iv = .int .i64 j ∧ GetRel s k j n
theorem GetSt.mk {s : ByteArray} {k : Nat} {nv iv : Value} (j n : Nat) (h1 : k ≤ j) (h2 : j ≤ s.size) (h3 : n < 18446744073709551616) (h4 : nv = .int .u64 n) (h5 : iv = .int .i64 j) (h6 : GetRel s k j n) : GetSt s k nv iv :=
  ⟨j, n, h1, h2, h3, h4, h5, h6⟩
theorem GetSt.next {s : ByteArray} {k j n : Nat} (h : GetRel s k j n) (hk : k ≤ j) (hj : j < s.size) (h1 : ¬ (j = k ∧ s[j].toNat = 128)) (h2 : n ≤ 144115188075855871) (h3 : 128 ≤ s[j].toNat) :
    GetSt s k (.int .u64 ((n : Int) * 128 + (s[j].toNat : Int) % 128)) (.int .i64 ((j : Int) + 1)) :=
  GetSt.mk (j + 1) (n * 128 + s[j].toNat % 128) (by omega) (by omega) (by omega) (by push_cast; rfl) (by push_cast; rfl) (h.next hk hj h1 h2 h3)
theorem ret3_num {k1 k2 k3 : IntKind} {a b c a' b' c' : Int} (h1 : a = a') (h2 : b = b') (h3 : c = c') : Ending.returned (.tuple #[.int k1 a, .int k2 b, .int k3 c]) = .returned (.tuple #[.int k1 a', .int k2 b', .int k3 c']) := by
  rw [h1, h2, h3]

set_option maxRecDepth 100000 in
set_option maxHeartbeats 800000 in
theorem rget_walk (s : ByteArray) (k : Nat) (w : World) (hs : s.size ≤ maxLen) (k1 : k ≤ s.size) :
    Calls Try.prog 24 #[.string s, .int .i64 k] w fun e w' => e = .returned (.tuple #[.int .u64 (Sough.getL k 0 0 (s.data.toList.drop k)).1, .int .i64 (Sough.getL k 0 0 (s.data.toList.drop k)).2.1, .int .i64 (Sough.getL k 0 0 (s.data.toList.drop k)).2.2]) ∧ w = w' := by
  unfold maxLen at hs
  go_enter Try.func24, Try.ntmps24
  go_wp2
  go_loop [7, 8] (fun nv iv => GetSt s k nv iv) (fun _ i => s.size - (intOf i).toNat)
  case atStart => exact GetSt.mk k 0 (by omega) k1 (by omega) rfl rfl (by simp [GetRel])
  case round =>
    obtain ⟨j, n, hkj, hj, hn, rfl, rfl, hr⟩ := hrel
    have HN := Lib.hid hn; clear hn
    have HR := Lib.hid hr; clear hr
    by_cases hlt : j < s.size
    · have hb : s[j].toNat < 256 := Sough.u8_lt _
      rcases Nat.eq_or_lt_of_le hkj with rfl | hlk
      all_goals
        go_wp2
        all_goals first
          | (go_ret3; refine ⟨?_, rfl⟩; rw [HR.out.err hlt (by first | omega | (have hor := ‹(_ == _) = true ∨ _›; rw [beq_iff_eq] at hor; omega))]; rfl)
          | (go_ret3; refine ⟨?_, rfl⟩; rw [HR.out.done (by omega) hlt (by omega) (by omega) (by omega)]; exact ret3_num (by push_cast; rfl) (by push_cast; rfl) rfl)
          | exact ⟨⟨_, _, _, _, _, GetSt.next HR.out (by omega) hlt (by omega) (by omega) (by omega), rfl, rfl, rfl, rfl, rfl⟩, by simp [intOf]; omega⟩
    · go_wp2
      go_ret3
      rw [HR.out.fin (by omega)]
      exact ⟨rfl, rfl⟩


theorem getD_toList (t : ByteArray) (j : Nat) (h : j < t.size) : (t.data.toList.getD j 0) = t[j] := by
  rw [List.getD_eq_getElem?_getD, List.getElem?_eq_getElem (by simpa using h), Option.getD_some, Array.getElem_toList]; rfl
/-- What the loop's slots hold. -/
def GetSt2 (s : ByteArray) (k : Nat) (nv iv : Value) : Prop := ∃ i n : Nat, k + i ≤ s.size ∧ n < 18446744073709551616 ∧ nv = .int .u64 n ∧ iv = .int .i64 i ∧ GetRel s k (k + i) n
theorem GetSt2.mk {s : ByteArray} {k : Nat} {nv iv : Value} (i n : Nat) (h2 : k + i ≤ s.size) (h3 : n < 18446744073709551616) (h4 : nv = .int .u64 n) (h5 : iv = .int .i64 i) (h6 : GetRel s k (k + i) n) : GetSt2 s k nv iv :=
  ⟨i, n, h2, h3, h4, h5, h6⟩
theorem bitLen_small {n : Nat} (h : n ≤ 144115188075855871) : Lib.bitLen n ≤ 57 := by
  unfold Lib.bitLen
  rw [Lib.bitLenAux_fuel 57 n (by have : (2 : Nat) ^ 57 = 144115188075855872 := by decide
                                  omega) 64 (by omega)]
  have : ∀ f x, Lib.bitLenAux f x ≤ f := by
    intro f
    induction f with
    | zero => intro x; simp [Lib.bitLenAux]
    | succ f ih =>
      intro x
      simp only [Lib.bitLenAux]
      split
      · omega
      · have := ih (x / 2); omega
  exact this _ _
theorem bitLen_big {n : Nat} (h : 144115188075855871 < n) (hn : n < 18446744073709551616) : 58 ≤ Lib.bitLen n := by
  have hp : (2 : Nat) ^ 57 = 144115188075855872 := by decide
  rw [Lib.bitLen_shift 57 n (by omega) (by have : (2 : Nat) ^ 64 = 18446744073709551616 := by decide
                                           omega), hp]
  have h0 : n / 144115188075855872 ≠ 0 := by omega
  have : Lib.bitLen (n / 144115188075855872) = 1 + Lib.bitLenAux 63 (n / 144115188075855872 / 2) := by
    unfold Lib.bitLen
    rw [show (64 : Nat) = 63 + 1 from rfl, Lib.bitLenAux, if_neg h0]
  omega

theorem u8_and127 (c : Nat) (h : c < 256) : bits .and .u8 (c : Int) 127 = (c : Int) % 128 := bits_mask .u8 8 (by decide) wraps_u8 7 (by decide) c (by omega) (by omega)
theorem join7 (n c : Nat) (hn : n ≤ 144115188075855871) (hc : c < 256) : bits .or .u64 ((n : Int) * 128) (IntKind.u64.wrap (bits .and .u8 (c : Int) 127)) = (n : Int) * 128 + (c : Int) % 128 := by
  rw [u8_and127 c hc, wraps_u64 _ (by omega) (by omega)]
  exact bits_join .u64 64 (by decide) wraps_u64 7 _ _ (by omega) (by omega) (by omega) (by omega) (by omega) (by omega)
theorem GetSt2.next {s : ByteArray} {k i n : Nat} (h : GetRel s k (k + i) n) (hj : k + i < s.size) (h1 : ¬ (i = 0 ∧ s[k + i].toNat = 128)) (h2 : n ≤ 144115188075855871) (h3 : 128 ≤ s[k + i].toNat) :
    GetSt2 s k (.int .u64 (bits .or .u64 ((n : Int) * 128) (IntKind.u64.wrap (bits .and .u8 (s[k + i].toNat : Int) 127)))) (.int .i64 ((i : Int) + 1)) :=
  GetSt2.mk (i + 1) (n * 128 + s[k + i].toNat % 128) (by omega) (by omega) (by rw [join7 _ _ h2 (Sough.u8_lt _)]; push_cast; rfl) (by push_cast; rfl) (h.next (by omega) hj (by omega) h2 h3)
theorem GetSt2.next0 {s : ByteArray} {k n : Nat} (h : GetRel s k k n) (hj : k < s.size) (h1 : ¬ s[k].toNat = 128) (h2 : n ≤ 144115188075855871) (h3 : 128 ≤ s[k].toNat) :
    GetSt2 s k (.int .u64 (bits .or .u64 ((n : Int) * 128) (IntKind.u64.wrap (bits .and .u8 (s[k].toNat : Int) 127)))) (.int .i64 1) :=
  GetSt2.mk 1 (n * 128 + s[k].toNat % 128) (by omega) (by omega) (by rw [join7 _ _ h2 (Sough.u8_lt _)]; push_cast; rfl) rfl (h.next (by omega) hj (by omega) h2 h3)

theorem len64_small (n : Nat) (h : n ≤ 144115188075855871) (w : World) : Calls Try.prog 38 #[.int .u64 n] w fun e w' => ∃ m : Nat, m ≤ 57 ∧ e = .returned (.int .i64 m) ∧ w = w' :=
  (Try.bits_Len64 n w (by omega) (by omega)).mono fun _ _ ⟨he, hw⟩ => ⟨Lib.bitLen n, bitLen_small h, by rw [he]; simp, hw.symm⟩
theorem len64_big (n : Nat) (h : 144115188075855871 < n) (hn : n < 18446744073709551616) (w : World) : Calls Try.prog 38 #[.int .u64 n] w fun e w' => ∃ m : Nat, 58 ≤ m ∧ e = .returned (.int .i64 m) ∧ w = w' :=
  (Try.bits_Len64 n w (by omega) (by omega)).mono fun _ _ ⟨he, hw⟩ => ⟨Lib.bitLen n, bitLen_big h hn, by rw [he]; simp, hw.symm⟩

set_option maxRecDepth 100000 in
set_option maxHeartbeats 800000 in
theorem get_walk (s : ByteArray) (k : Nat) (w : World) (hs : s.size ≤ maxLen) (k1 : k ≤ s.size) :
    Calls Try.prog 21 #[.string s, .int .i64 k] w fun e w' => e = .returned (.tuple #[.int .u64 (Sough.getL k 0 0 (s.data.toList.drop k)).1, .int .i64 (Sough.getL k 0 0 (s.data.toList.drop k)).2.1, .int .i64 (Sough.getL k 0 0 (s.data.toList.drop k)).2.2]) ∧ Below w.heap.size w w' := by
  unfold maxLen at hs
  have hcv := fun (w : World) (t : ByteArray) => Lib.run_convert_string_bytes (P := Try.prog) w 9 43 5 t Try.underlying9 Try.underlying43 Try.underlying5
  obtain ⟨W1, hW1⟩ : ∃ W1, W1 = Lib.bytesWorld w 5 (s.extract k s.size) := ⟨_, rfl⟩
  have hcell : ∀ i (h : k + i < s.size), W1.cell? ⟨w.heap.size, i, none⟩ = some (.int .u8 (s[k + i].toNat)) := by
    intro i h
    rw [hW1, Lib.bytesWorld_cell _ _ _ _ (by simp; omega), getD_toList _ _ (by simp; omega)]
    simp [ByteArray.getElem_extract]
  have hbel : Below w.heap.size w W1 := by
    rw [hW1]
    exact Joins.below_bytesWorld _ _ _ _ (Nat.le_refl _)
  have HW := Lib.hid hW1; have HC := Lib.hid hcell; have HB := Lib.hid hbel; clear hW1 hcell hbel
  have d0 : decide ((k : Int) < 0) = false := by simp
  have d1 : decide (s.size < k) = false := by simpa using k1
  go_enter Try.func21, Try.ntmps21
  go_wp2
  rw [← HW.out]
  clear HW
  go_loopw [7, 23] (fun nv iv wr => GetSt2 s k nv iv ∧ W1 = wr) (fun _ i _ => s.size - (intOf i).toNat)
  case atStart => exact ⟨GetSt2.mk 0 0 (by omega) (by omega) rfl rfl (by simp [GetRel]), rfl⟩
  case round =>
    obtain ⟨⟨i, n, hj, hn, rfl, rfl, hr⟩, rfl⟩ := hrel
    have HN := Lib.hid hn
    have HR := Lib.hid hr; clear hr
    by_cases hlt : k + i < s.size
    · have hb : s[k + i].toNat < 256 := Sough.u8_lt _
      have hc := HC.out i hlt
      rcases Nat.lt_or_ge 144115188075855871 n with hbig | hbig
      · have HBIG := Lib.hid hbig; clear hbig hn
        go_wp2_with (go_at_call 38; refine (len64_big _ HBIG.out HN.out _).mono ?_; rintro e w' ⟨m, hm, rfl, rfl⟩)
        all_goals (go_ret3; refine ⟨?_, HB.out⟩; rw [HR.out.err hlt (Or.inr HBIG.out)]; rfl)
      · rcases Nat.eq_zero_or_pos i with rfl | hi
        · clear hn
          simp only [Nat.add_zero] at hb hlt
          have HR2 := Lib.hid (show GetRel s k k n from HR.out); clear HR
          go_wp2_with (go_at_call 38; refine (len64_small _ hbig _).mono ?_; rintro e w' ⟨m, hm, rfl, rfl⟩)
          all_goals first
            | (go_ret3; refine ⟨?_, HB.out⟩; rw [HR2.out.err hlt (by first | omega | (have hor := ‹(_ == _) = true ∨ _›; rw [beq_iff_eq] at hor; omega))]; rfl)
            | (go_ret3; refine ⟨?_, HB.out⟩; rw [HR2.out.done (by omega) hlt (by omega) (by omega) (by omega)]; exact ret3_num (by rw [join7 _ _ hbig hb]; push_cast; rfl) (by push_cast; omega) rfl)
            | (go_roundw
               case rel => exact ⟨GetSt2.next0 HR2.out hlt (by omega) hbig (by omega), trivial⟩
               case measure => simp [intOf]; omega)
        · clear hn
          go_wp2_with (go_at_call 38; refine (len64_small _ hbig _).mono ?_; rintro e w' ⟨m, hm, rfl, rfl⟩)
          all_goals first
            | (go_ret3; refine ⟨?_, HB.out⟩; rw [HR.out.done (by omega) hlt (by omega) (by omega) (by omega)]; exact ret3_num (by rw [join7 _ _ hbig hb]; push_cast; rfl) (by push_cast; omega) rfl)
            | (go_roundw
               case rel => exact ⟨GetSt2.next HR.out hlt (by omega) hbig (by omega), trivial⟩
               case measure => simp [intOf]; omega)
    · go_wp2_with fail
      go_ret3
      rw [HR.out.fin (by omega)]
      exact ⟨rfl, HB.out⟩

end Go.Proofs.Ytjoanlhdocoddaa
