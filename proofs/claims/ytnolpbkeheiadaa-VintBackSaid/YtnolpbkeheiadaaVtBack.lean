/- The walk of the law VintBack. -/
import Derived.Test.YtnolpbkeheiadaaVtWhere
namespace Go.Proofs.Ytnolpbkeheiadaa
open Go.RowKit

/-- What has been put behind j numbers. -/
def enc (T : List UInt8) (ns : Nat → Nat) : Nat → List UInt8
  | 0 => T
  | j + 1 => enc T ns j ++ (Sough.put (ns j) ++ Sough.putText T)
theorem enc_len (T : List UInt8) (ns : Nat → Nat) (hT : T.length ≤ 40) : ∀ j, (enc T ns j).length ≤ 40 + 60 * j
  | 0 => by simpa [enc] using hT
  | j + 1 => by
    have := enc_len T ns hT j
    have h1 := (Sough.put_len (ns j)).2
    have h2 := (Sough.put_len T.length).2
    simp only [enc, List.length_append, Sough.putText]
    omega
theorem enc_more (T : List UInt8) (ns : Nat → Nat) (j d : Nat) : ∃ r, enc T ns (j + d) = enc T ns j ++ r := by
  induction d with
  | zero => exact ⟨[], by simp⟩
  | succ d ih =>
    obtain ⟨r, hr⟩ := ih
    exact ⟨r ++ (Sough.put (ns (j + d)) ++ Sough.putText T), by rw [← Nat.add_assoc, enc, hr, List.append_assoc]⟩
theorem enc_split (T : List UInt8) (ns : Nat → Nat) {j m : Nat} (h : j < m) : ∃ r, enc T ns m = enc T ns j ++ (Sough.put (ns j) ++ (Sough.putText T ++ r)) := by
  obtain ⟨r, hr⟩ := enc_more T ns (j + 1) (m - (j + 1))
  refine ⟨r, ?_⟩
  rw [show j + 1 + (m - (j + 1)) = m by omega] at hr
  rw [hr, enc]; simp
theorem enc_get (T : List UInt8) (ns : Nat → Nat) {j m : Nat} (h : j < m) (hn : ns j < 18446744073709551616) :
    Sough.get (enc T ns m) ((enc T ns j).length : Int) = (ns j, (enc T ns j).length + (Sough.put (ns j)).length, 0) := by
  obtain ⟨r, hr⟩ := enc_split T ns h
  rw [hr]
  exact Sough.get_put _ _ _ hn
theorem enc_text (T : List UInt8) (ns : Nat → Nat) {j m : Nat} (h : j < m) (hT : T.length ≤ 40) :
    Sough.getText (enc T ns m) (((enc T ns j).length : Int) + ((Sough.put (ns j)).length : Int)) 40 = (T, (enc T ns (j + 1)).length, 0) := by
  obtain ⟨r, hr⟩ := enc_split T ns h
  have h1 := getText_putText T r 40 (by omega)
  rw [if_pos (by omega)] at h1
  have h2 := Sough.getText_shift (enc T ns j ++ Sough.put (ns j)) (Sough.putText T ++ r) 0 40 (by omega) h1
  rw [hr, ← List.append_assoc]
  simp only [List.length_append, Int.natCast_add, if_true] at h2
  rw [show (((enc T ns j).length : Int) + ((Sough.put (ns j)).length : Int)) = (((enc T ns j).length : Int) + ((Sough.put (ns j)).length : Int) + (0 : Nat)) from by omega]
  refine h2.trans ?_
  simp only [Prod.mk.injEq, and_true, true_and, enc, List.length_append]
  omega

def BackA (T : List UInt8) (ns : Nat → Nat) (m : Nat) (w : World) (sv iv : Value) (wr : World) : Prop :=
  ∃ j : Nat, j ≤ m ∧ sv = .string ⟨(enc T ns j).toArray⟩ ∧ iv = .int .i64 j ∧ Below w.heap.size w wr
def BackB (T : List UInt8) (ns : Nat → Nat) (m : Nat) (w : World) (av iv : Value) (wr : World) : Prop :=
  ∃ j : Nat, j ≤ m ∧ av = .int .i64 (enc T ns j).length ∧ iv = .int .i64 j ∧ Below w.heap.size w wr

def BackN (t : ByteArray) (w : World) (sv iv : Value) (wr : World) : Prop := sv = .string t ∧ iv = .int .i64 0 ∧ w = wr
def BackM (t : ByteArray) (w : World) (av iv : Value) (wr : World) : Prop := av = .int .i64 t.size ∧ iv = .int .i64 0 ∧ w = wr
theorem BackA.next {T : List UInt8} {ns : Nat → Nat} {m j : Nat} {w wr : World} (hlt : j < m) (hb : Below w.heap.size w wr) :
    BackA T ns m w (.string ((⟨(enc T ns j).toArray⟩ : ByteArray) ++ ⟨(Sough.put (ns j)).toArray⟩ ++ ⟨(Sough.putText T).toArray⟩)) (.int .i64 ((j : Int) + 1)) wr :=
  ⟨j + 1, hlt, by rw [bytes_append, bytes_append]; simp [enc], by go_num, hb⟩

set_option maxRecDepth 100000 in
set_option maxHeartbeats 6400000 in
theorem back_some (b off len cap : Nat) (ns : Nat → Nat) (s : ByteArray) (w : World) (hlen : len ≤ maxLen) (hc : ∀ i, i < len → w.cell? ⟨b, off + i, none⟩ = some (.int .u64 (ns i))) (hn : ∀ i, ns i < 18446744073709551616) (hs : s.size ≤ maxLen) :
    Calls Try.prog 5 #[.slice (some ⟨b, off, none⟩) len cap, .string s] w fun e w' => e = .returned (.bool true) ∧ Below w.heap.size w w' := by
  have HC := Lib.hid hc; have HN := Lib.hid hn; clear hc hn
  unfold maxLen at hs hlen
  obtain ⟨m, hm⟩ : ∃ m, m = min len 10 := ⟨_, rfl⟩
  have m1 : m ≤ len := by omega
  have m2 : m ≤ 10 := by omega
  have m3 : len ≤ m ∨ 10 ≤ m := by omega
  have M3 := Lib.hid m3
  clear hm m3
  go_enter Try.func5, Try.ntmps5
  go_wp2_with fail
  obtain ⟨T, hT, hTl⟩ := list_of (s.extract 0 (min (s.size : Int) 40).toNat)
  have lT : T.length ≤ 40 := by rw [← hTl]; simp; omega
  rw [hT]
  clear hT hTl hs
  go_loopw [5, 6] (fun sv iv wr => BackA T ns m w sv iv wr) (fun _ i _ => 10 - (intOf i).toNat)
  case atStart => exact ⟨0, by omega, rfl, rfl, Below.refl _ _⟩
  case round =>
    obtain ⟨j, hj, rfl, rfl, hbel⟩ := hrel
    have hel := enc_len T ns lT j
    have HB := Lib.hid hbel
    have hpt := (Sough.put_len T.length).2
    have hptl : (Sough.putText T).length ≤ 50 := by simp only [Sough.putText, List.length_append]; omega
    by_cases hlt : j < m
    · have hcell := (hbel.cell (World.block_lt_of_cell? w _ (HC.out j (by omega)))).trans (HC.out j (by omega))
      clear hbel
      go_wp2_with fail
      refine (put_walk (ns j) _ (HN.out j)).mono ?_; rintro _ w1 ⟨rfl, hb1⟩
      have HB1 := Lib.hid hb1; clear hb1 hcell
      have hpl := (Sough.put_len (ns j)).2
      go_wp2_with fail
      refine (putt_walk _ _ (by rw [mk_size]; omega)).mono ?_; rintro _ w2 ⟨rfl, hb2⟩
      have HB2 := Lib.hid hb2; clear hb2
      go_wp2_with fail
      go_roundw
      case rel => exact BackA.next hlt (HB.out.trans ((ext_trans HB1.out HB2.out).mono HB.out.size))
      case measure => simp [intOf]; omega
    · obtain rfl : j = m := by omega
      clear hbel hlt hj
      have HEL := Lib.hid hel; clear hel
      rcases (show (len ≤ j) ∨ (10 ≤ j ∧ j < len) from by have := M3.out; omega) with h3 | ⟨h3, h4⟩
      all_goals
        go_wp2_with fail
        go_loopw [7, 8] (fun av iv wr' => BackB T ns j w av iv wr') (fun _ i _ => 10 - (intOf i).toNat)
        case atStart => exact ⟨0, by omega, rfl, rfl, HB.out⟩
        case round =>
          obtain ⟨k, hk, rfl, rfl, hbel⟩ := hrel
          have hek := enc_len T ns lT k
          have hej := HEL.out
          have HB' := Lib.hid hbel
          by_cases hlt : k < j
          · have hcell := (hbel.cell (World.block_lt_of_cell? w _ (HC.out k (by omega)))).trans (HC.out k (by omega))
            have G1 := Lib.hid (enc_get T ns hlt (HN.out k))
            have G2 := Lib.hid (enc_text T ns hlt lT)
            clear hbel
            go_wp2_with fail
            refine (get_as G1.out _ (by rw [mk_size]; unfold maxLen; omega)).mono ?_; rintro _ w1 ⟨rfl, hb1⟩
            have f1 : (((enc T ns (k + 1)).length : Int) != ((enc T ns k).length : Int) + ((Sough.put (ns k)).length : Int) + ((Sough.putText T).length : Int)) = false := by
              simp only [bne_eq_false_iff_eq, enc, List.length_append]; omega
            have hpl := (Sough.put_len (ns k)).2
            go_wp2_with fail
            refine (gett_as G2.out _ (by rw [mk_size]; unfold maxLen; omega) (by decide)).mono ?_; rintro _ w2 ⟨rfl, hb2⟩
            have hb12 := ext_trans hb1 hb2
            have hcell2 := (hb12.cell (World.block_lt_of_cell? wr _ hcell)).trans hcell
            have HB12 := Lib.hid hb12; clear hb1 hb2 hb12 hcell
            go_wp2_with fail
            refine (put_walk (ns k) _ (HN.out k)).mono ?_; rintro _ w3 ⟨rfl, hb3⟩
            have HB3 := Lib.hid hb3; clear hb3 hcell2
            go_wp2_with fail
            refine (putt_walk _ _ (by rw [mk_size]; omega)).mono ?_; rintro _ w4 ⟨rfl, hb4⟩
            have HB4 := Lib.hid hb4; clear hb4
            go_wp2_with fail
            go_roundw
            case rel => exact ⟨k + 1, hlt, rfl, by go_num, HB'.out.trans ((ext_trans (ext_trans HB12.out HB3.out) HB4.out).mono HB'.out.size)⟩
            case measure => simp [intOf]; omega
          · obtain rfl : k = j := by omega
            clear hbel hlt hk
            go_wp2_with fail
            refine (fixed_walk _).mono ?_; rintro _ w6 ⟨rfl, hb6⟩
            go_wp2_with fail
            go_ret
            exact ⟨by first | rfl | exact ret_true (by simp), HB'.out.trans (hb6.mono HB'.out.size)⟩

set_option maxRecDepth 100000 in
set_option maxHeartbeats 3200000 in
theorem back_none (a : Option Addr) (cap : Nat) (s : ByteArray) (w : World) (hs : s.size ≤ maxLen) :
    Calls Try.prog 5 #[.slice a 0 cap, .string s] w fun e w' => e = .returned (.bool true) ∧ Below w.heap.size w w' := by
  unfold maxLen at hs
  go_enter Try.func5, Try.ntmps5
  go_wp2_with fail
  have ht : (s.extract 0 (min (s.size : Int) 40).toNat).size ≤ 40 := by simp; omega
  generalize s.extract 0 (min (s.size : Int) 40).toNat = t at *
  go_loopw [5, 6] (fun sv iv wr => BackN t w sv iv wr) (fun _ _ _ => 0)
  case atStart => exact ⟨rfl, rfl, rfl⟩
  case round =>
    obtain ⟨rfl, rfl, rfl⟩ := hrel
    go_wp2_with fail
    go_loopw [7, 8] (fun av iv wr => BackM t w av iv wr) (fun _ _ _ => 0)
    case atStart => exact ⟨rfl, rfl, rfl⟩
    case round =>
      obtain ⟨rfl, rfl, rfl⟩ := hrel
      go_wp2_with fail
      refine (fixed_walk _).mono ?_; rintro _ w6 ⟨rfl, hb6⟩
      go_wp2_with fail
      go_ret
      exact ⟨by first | rfl | exact ret_true (by simp), hb6⟩

theorem vintBack_walk (a0 : Option Addr) (len0 cap0 : Nat) (z0 : List Int) (s : ByteArray) (w : World) (w0 : IsRow .u64 w a0 len0 cap0 z0) (hs : s.size ≤ maxLen) :
    Calls Try.prog 5 #[.slice a0 len0 cap0, .string s] w fun e w' => e = .returned (.bool true) ∧ Below w.heap.size w w' := by
  rcases Nat.eq_zero_or_pos len0 with rfl | hpos
  · exact back_none a0 cap0 s w hs
  · rcases w0 with ⟨_, h, _⟩ | ⟨x, rfl, hl, hm, hz, hc, hw⟩
    · omega
    · obtain ⟨b, off, rfl, hc'⟩ := ints_at hc (by omega)
      have hb : ∀ i, i < z0.length → 0 ≤ z0.getD i 0 ∧ z0.getD i 0 ≤ 18446744073709551615 := fun i hi => by
        rw [List.getD_eq_getElem?_getD, List.getElem?_eq_getElem hi, Option.getD_some]
        exact bounds_u64 (hw _ (List.getElem_mem hi))
      refine back_some b off len0 cap0 (fun i => (z0.getD i 0).toNat) s w (by omega) (fun i hi => ?_) (fun i => ?_) hs
      · rw [hc' i (by omega), Int.toNat_of_nonneg (hb i (by omega)).1]
      · by_cases hi : i < z0.length
        · have := hb i hi; show (z0.getD i 0).toNat < _; omega
        · show (z0.getD i 0).toNat < _
          rw [List.getD_eq_getElem?_getD, List.getElem?_eq_none (by omega)]; simp

end Go.Proofs.Ytnolpbkeheiadaa
