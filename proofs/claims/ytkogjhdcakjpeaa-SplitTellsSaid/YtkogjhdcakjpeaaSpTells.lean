/- The walk of the law SplitTells. -/
import Derived.Test.YtkogjhdcakjpeaaSpRow
import Derived.Test.YtkogjhdcakjpeaaSpSizes
import Derived.Test.YtkogjhdcakjpeaaSpArg
namespace Go.Proofs.Ytkogjhdcakjpeaa
open Go.RowKit Go.Shelf

theorem take_map_cells {fs : List Sough.Frag} {k : Nat} (hk : k < fs.length) : ((fs.map Sough.cutF).take (k + 1)).flatMap fragCells = ((fs.map Sough.cutF).take k).flatMap fragCells ++ fragCells (Sough.cutF (Sough.fragAt fs k)) := by
  rw [take_cells (by simpa using hk)]
  congr 1
  simp [Sough.fragAt, List.getD_eq_getElem?_getD, List.getElem?_eq_getElem hk]

/-- The parts taken so far, cut. -/
def TellR (fs : List Sough.Frag) (w : World) (n : Nat) (ov iv : Value) (wr : World) : Prop :=
  ∃ k : Nat, k ≤ n ∧ iv = .int .i64 k ∧ wr.ownsRow w.heap.size 26 4 ov k (((fs.map Sough.cutF).take k).flatMap fragCells) ∧ Below w.heap.size w wr

set_option maxRecDepth 100000 in
set_option maxHeartbeats 6400000 in
theorem tells_any (FX : FixedOk) {s s1 : ByteArray} {n0 n1 : Int} {nid len cap m : Nat} {A : Option Addr} {fs cf : List Sough.Frag} {ce : Nat} {jt : List UInt8} {je : Nat} (h1 : s.extract 0 (min (s.size : Int) 5000).toNat = s1) (hi : IntKind.u64.wrap n0 = nid)
    (hc : Sough.cut s1.data.toList nid n1 = (cf, ce)) (hcl : cf.length ≤ 16) (hm : min len 20 = m) (hj : Sough.join ((fs.map Sough.cutF).take m) = (jt, je)) (hs : s.size ≤ maxLen) (w : World) (hA : FragArg w A len cap fs) :
    Calls Try.prog 3 #[.string s, .agg #[.int .i64 n0, .int .i64 n1], .slice A len cap] w fun e w' => e = .returned (.bool true) ∧ Below w.heap.size w w' := by
  have hsm : s.size ≤ 9223372036854775807 := hs
  have CC := Lib.hid (fun w => cut_as hc w)
  have CRC := Lib.hid (fun w => rcut_as hc w)
  have HA := Lib.hid hA; have HJ := Lib.hid hj; have HCL := Lib.hid hcl; have HM := Lib.hid hm; have FX' := Lib.hid FX
  have hm1 : m ≤ 20 := by omega
  have hm2 : m ≤ len := by omega
  have hlm : len ≤ 9223372036854775807 := by have := hA.hcap; unfold maxLen at this; omega
  obtain ⟨i0, hinf, hz0, hz1, hz2⟩ := info_parts infoFrag'
  have M0 := Lib.hid ((Mem.start w).alloc (.cells #[.int .i64 n0, .int .i64 n1] 22))
  clear FX hc hcl hm hj hs hA
  go_enter Try.func3, Try.ntmps3
  go_wp2_with fail
  have HW1 := Lib.hid (World.size_alloc w (.cells #[.int .i64 n0, .int .i64 n1] 22))
  generalize w.alloc (.cells #[.int .i64 n0, .int .i64 n1] 22) = W1 at *
  go_loopw [7, 8] (fun ov iv wr => TellR fs W1 m ov iv wr) (fun _ iv _ => m - (intOf iv).toNat)
  case atStart => exact ⟨0, Nat.zero_le _, rfl, by have h := World.ownsRow_made (base := W1.heap.size) (e := 26) (size := 4) W1 #[] 0 (Nat.le_refl _) (Nat.zero_le _) rfl; simpa [HW1.out] using h, (Below.refl _ _).alloc (Nat.le_refl _) _⟩
  case round =>
    obtain ⟨k, hk, rfl, hown, hbel⟩ := hrel
    have HB2 := Lib.hid hbel
    by_cases hlt : k < m
    · obtain ⟨b, o, rfl, hf⟩ := HA.out.hat (by omega)
      have hfl : k < fs.length := by rw [HA.out.hlen]; omega
      obtain ⟨c0, c1, c2, c3⟩ := (hf.later M0.out.bel).later hbel k hfl
      have hsucc := take_map_cells hfl
      have hpt := HA.out.hpart k (by omega)
      obtain ⟨xs, hxs⟩ : ∃ xs, xs = ((fs.map Sough.cutF).take k).flatMap fragCells := ⟨_, rfl⟩
      rw [← hxs] at hsucc hown
      have HO := Lib.hid hown
      generalize Sough.fragAt fs k = f at *
      obtain ⟨c, hcf⟩ : ∃ c, Sough.cutF f = c := ⟨_, rfl⟩
      rw [hcf] at hsucc
      have HS := Lib.hid hsucc
      have CG := Lib.hid (fun w => lcut_as hcf hpt w)
      clear hbel hown hsucc hxs hcf hf hpt hfl
      have k1 : k < len := by omega
      have k2 : k < 20 := by omega
      go_wp2_with fail
      refine (CG.out _).mono ?_; rintro e w3 ⟨rfl, hb3⟩
      have HB3 := Lib.hid hb3
      have hown3 := own_later HO.out hb3
      clear hb3 HO
      go_wp2_with (at_builtin; refine wpList_append_own _ rfl _ _ 23 rfl W1.heap.size 26 i0 fragZero 4 40 Try.underlying23 hinf hz0 hz1 hz2 rfl (by decide) _ _ _ rfl (hown3.alloc _) ⟨w3.heap.size, 0, none⟩ 1 1 (fragCells c) rfl rfl (own_cells w3 26 c) (frag_one c) (by unfold maxLen; omega) (by omega) (by have := HB2.out.size; have := HB3.out.size; simp; omega) ?_)
      intro v' w6 hown' hgrow _
      have HR : Hid (TellR fs W1 m v' (.int .i64 (k + 1 : Nat)) w6) := Lib.hid ⟨k + 1, by omega, rfl, by rw [HS.out]; exact hown', (((HB2.out.trans (HB3.out.mono HB2.out.size)).alloc (Nat.le_trans HB2.out.size HB3.out.size) _).grown hgrow (by have := HB2.out.size; have := HB3.out.size; simp; omega) (fun r e => (hown3.lt r e).1))⟩
      clear hown' hgrow hown3 c0 c1 c2 c3
      go_wp2
      go_roundw
      case rel => exact HR.out
      case measure => simp [intOf]; omega
    · obtain rfl : k = m := by omega
      have hpl : ((fs.map Sough.cutF).take k).length = k := by rw [List.length_take, List.length_map, HA.out.hlen]; omega
      have HO := Lib.hid (by rw [hpl]; exact hown : wr.ownsRow W1.heap.size 26 4 _ ((fs.map Sough.cutF).take k).length (((fs.map Sough.cutF).take k).flatMap fragCells))
      have HPL := Lib.hid hpl
      have M2 := Lib.hid (M0.out.later hbel)
      have r2 := M2.out.rules; simp only [AllCells, CellsAt, Nat.zero_add] at r2
      obtain ⟨pa, pc, rfl⟩ := own_shape hown
      clear hbel hown hpl hlt
      have HE : ((k < len ∧ 20 ≤ k) ∨ len ≤ k) := by have := HM.out; omega
      rcases HE with ⟨k1, k2⟩ | k1
      all_goals
        go_wp2_with fail
        refine (CC.out _).mono ?_
        rintro e w3 ⟨v3, rfl, hown3, hb3⟩
        obtain ⟨a3, cap3, rfl⟩ := own_shape hown3
        have HO3 := Lib.hid hown3
        have M3 := Lib.hid (M2.out.later hb3)
        have HP3 := Lib.hid (own_later HO.out hb3)
        clear hown3 hb3 r2
        have r3 := M3.out.rules; simp only [AllCells, CellsAt, Nat.zero_add] at r3
        go_wp2_with fail
        refine (CRC.out _).mono ?_
        rintro e w4 ⟨v4, rfl, hown4, hb4⟩
        obtain ⟨a4, cap4, rfl⟩ := own_shape hown4
        have HO4 := Lib.hid hown4
        have HO3' := Lib.hid (own_later HO3.out hb4)
        have M4 := Lib.hid (M3.out.later hb4)
        have HP4 := Lib.hid (own_later HP3.out hb4)
        clear hown4 hb4 r3 HO3 HP3
        go_wp2_with fail
        refine (join_as HJ.out _ HP4.out).mono ?_; rintro e w5 ⟨rfl, hb5⟩
        have M5 := Lib.hid (M4.out.later hb5)
        have HP5 := Lib.hid (own_later HP4.out hb5)
        have HO5 := Lib.hid (own_later HO3'.out hb5)
        have HQ5 := Lib.hid (own_later HO4.out hb5)
        clear hb5 HP4 HO3' HO4
        go_wp2_with fail
        refine (refs_as (by rw [HPL.out]; omega) _ HP5.out).mono ?_
        rintro e w6 ⟨v6, rfl, hown6, hb6⟩
        have M6 := Lib.hid (M5.out.later hb6)
        have HO6 := Lib.hid (own_later HO5.out hb6)
        have HQ6 := Lib.hid (own_later HQ5.out hb6)
        have HR6 := Lib.hid hown6
        clear hb6 hown6 HP5 HO5 HQ5
        go_wp2_with fail
        refine (rjoin_as HJ.out _ (by rw [HPL.out]; unfold maxLen; omega) HR6.out).mono ?_; rintro e w7 ⟨rfl, hb7⟩
        have M7 := Lib.hid (M6.out.later hb7)
        have HO7 := Lib.hid (own_later HO6.out hb7)
        have HQ7 := Lib.hid (own_later HQ6.out hb7)
        clear hb7 HO6 HQ6 HR6
        go_wp2_with fail
        refine (refs_as (by have := HCL.out; omega) _ HO7.out).mono ?_
        rintro e w8 ⟨v8, rfl, hown8, hb8⟩
        have M8 := Lib.hid (M7.out.later hb8)
        have HQ8 := Lib.hid (own_later HQ7.out hb8)
        have HR8 := Lib.hid hown8
        clear hb8 hown8 HO7 HQ7
        go_wp2_with fail
        refine (same_as (by have := HCL.out; omega) _ HR8.out HQ8.out).mono ?_; rintro e w9 ⟨rfl, hb9⟩
        have M9 := Lib.hid (M8.out.later hb9)
        clear hb9 HR8 HQ8
        go_wp2_with fail
        refine (FX'.out _).mono ?_; rintro e w10 ⟨rfl, hb⟩
        have M10 := Lib.hid (M9.out.later hb); clear hb M9
        go_wp2_with fail
        go_ret
        exact ⟨by first | rfl | exact ret_true (by simp), M10.out.bel⟩

theorem cut_le {s : List UInt8} {id : Nat} {size : Int} {fs : List Sough.Frag} {er : Nat} (h : Sough.cut s id size = (fs, er)) : fs.length ≤ 16 := by
  unfold Sough.cut at h
  split at h
  · obtain ⟨rfl, _⟩ := Prod.mk.inj h; simp
  · split at h
    · obtain ⟨rfl, _⟩ := Prod.mk.inj h; simp
    · obtain ⟨rfl, _⟩ := Prod.mk.inj h
      rw [Sough.cutAll_len]; omega

theorem splitTells_walk (s : ByteArray) (n0 n1 : Int) (A : Option Addr) (len cap : Nat) (fs : List Sough.Frag) (w : World) (hs : s.size ≤ maxLen) (hA : FragArg w A len cap fs) :
    Calls Try.prog 3 #[.string s, .agg #[.int .i64 n0, .int .i64 n1], .slice A len cap] w fun e w' => e = .returned (.bool true) ∧ Below w.heap.size w w' := by
  have hi : IntKind.u64.wrap n0 = ((IntKind.u64.wrap n0).toNat : Nat) := by rw [IntKind.wrap_u64]; omega
  rcases hc : Sough.cut (s.extract 0 (min (s.size : Int) 5000).toNat).data.toList (IntKind.u64.wrap n0).toNat n1 with ⟨cf, ce⟩
  rcases hj : Sough.join ((fs.map Sough.cutF).take (min len 20)) with ⟨jt, je⟩
  exact tells_any fixed_walk rfl hi hc (cut_le hc) rfl hj hs w hA

end Go.Proofs.Ytkogjhdcakjpeaa
