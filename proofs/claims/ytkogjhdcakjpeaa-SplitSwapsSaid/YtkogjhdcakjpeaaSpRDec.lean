/- The walk of soughref11.Decode. -/
import Derived.Test.YtkogjhdcakjpeaaSpDec2
namespace Go.Proofs.Ytkogjhdcakjpeaa
open Go.RowKit

/-- The call's own memory: the result. -/
structure RecM (w : World) (W : World) : Prop where
  size : w.heap.size + 1 ≤ W.heap.size
  res : W.heap[w.heap.size]? = some (.cells #[.int .u64 0, .int .i64 0, .int .i64 0, .string ⟨#[]⟩] 43 (0, 0))
  below : Below w.heap.size w W
theorem RecM.later {w W W' : World} (h : RecM w W) (hb : Below W.heap.size W W') : RecM w W' :=
  ⟨Nat.le_trans h.size hb.size, (hb.block _ (by have := h.size; omega)).trans h.res, h.below.trans (hb.mono (by have := h.size; omega))⟩
theorem RecM.start (w : World) : RecM w (w.alloc (.cells #[.int .u64 0, .int .i64 0, .int .i64 0, .string ⟨#[]⟩] 43)) :=
  ⟨by simp, heap_alloc_new _ _, (Below.refl _ _).alloc (Nat.le_refl _) _⟩
theorem RecM.cell {w W : World} (h : RecM w W) : W.cell? ⟨w.heap.size, 0, none⟩ = some (.int .u64 0) ∧ W.cell? ⟨w.heap.size, 1, none⟩ = some (.int .i64 0) ∧ W.cell? ⟨w.heap.size, 2, none⟩ = some (.int .i64 0) ∧ W.cell? ⟨w.heap.size, 3, none⟩ = some (.string ⟨#[]⟩) ∧
    W.frozen? ⟨w.heap.size, 0, none⟩ = false ∧ W.frozen? ⟨w.heap.size, 1, none⟩ = false ∧ W.frozen? ⟨w.heap.size, 2, none⟩ = false ∧ W.frozen? ⟨w.heap.size, 3, none⟩ = false := by
  have := h.res
  simp [World.cell?, World.frozen?, this]
theorem RecM.four {w W : World} (h : RecM w W) (x y z u : Value) :
    Below w.heap.size w ((((W.setCell ⟨w.heap.size, 0, none⟩ x).setCell ⟨w.heap.size, 1, none⟩ y).setCell ⟨w.heap.size, 2, none⟩ z).setCell ⟨w.heap.size, 3, none⟩ u) :=
  (((h.below.setCell (Nat.le_refl _) _).setCell (Nat.le_refl _) _).setCell (Nat.le_refl _) _).setCell (Nat.le_refl _) _

set_option maxRecDepth 100000 in
set_option maxHeartbeats 1600000 in
theorem rdec_err0 {s : ByteArray} {er : Nat} {a p0 : Nat} (h0 : Sough.get s.data.toList 0 = (a, p0, er)) (he : er ≠ 0) (w : World) (hs : s.size ≤ maxLen) :
    Calls Try.prog 18 #[.string s] w fun e w' => e = .returned (.tuple #[.agg #[.int .u64 0, .int .i64 0, .int .i64 0, .string ⟨#[]⟩], .int .i64 er]) ∧ Below w.heap.size w w' := by
  have HS := Lib.hid hs
  have HM := Lib.hid (RecM.start w)
  unfold maxLen at hs
  have hbe : ((er : Int) != 0) = true := by simp; omega
  have H0 := Lib.hid h0; clear h0
  go_enter Try.func18, Try.ntmps18
  go_wp2_with fail
  refine (rget_as H0.out _ HS.out).mono ?_; rintro e w1 ⟨rfl, hb1⟩
  have M1 := HM.out.later hb1
  have HM1 := Lib.hid M1
  have rc1 := M1.cell
  clear M1 hb1
  go_wp2_with fail
  refine bodyPost_ret (v := .tuple #[.agg #[.int .u64 0, .int .i64 0, .int .i64 0, .string ⟨#[]⟩], .int .i64 er]) (by simp [results, Try.results18, go_sem, rc1]) rfl ⟨rfl, HM1.out.four _ _ _ _⟩

set_option maxRecDepth 100000 in
set_option maxHeartbeats 1600000 in
theorem rdec_err1 {s : ByteArray} {er : Nat} {a p0 : Nat} (h0 : Sough.get s.data.toList 0 = (a, p0, 0)) {b p1 : Nat} (h1 : Sough.get s.data.toList p0 = (b, p1, er)) (he : er ≠ 0) (w : World) (hs : s.size ≤ maxLen) :
    Calls Try.prog 18 #[.string s] w fun e w' => e = .returned (.tuple #[.agg #[.int .u64 0, .int .i64 0, .int .i64 0, .string ⟨#[]⟩], .int .i64 er]) ∧ Below w.heap.size w w' := by
  have HS := Lib.hid hs
  have HM := Lib.hid (RecM.start w)
  unfold maxLen at hs
  have hbe : ((er : Int) != 0) = true := by simp; omega
  have H0 := Lib.hid h0; clear h0
  have H1 := Lib.hid h1; clear h1
  go_enter Try.func18, Try.ntmps18
  go_wp2_with fail
  refine (rget_as H0.out _ HS.out).mono ?_; rintro e w1 ⟨rfl, hb1⟩
  have M1 := HM.out.later hb1
  have HM1 := Lib.hid M1
  have rc1 := M1.cell
  clear M1 hb1
  go_wp2_with fail
  refine (rget_as H1.out _ HS.out).mono ?_; rintro e w2 ⟨rfl, hb2⟩
  have M2 := HM1.out.later hb2
  have HM2 := Lib.hid M2
  have rc2 := M2.cell
  clear M2 hb2
  go_wp2_with fail
  refine bodyPost_ret (v := .tuple #[.agg #[.int .u64 0, .int .i64 0, .int .i64 0, .string ⟨#[]⟩], .int .i64 er]) (by simp [results, Try.results18, go_sem, rc2]) rfl ⟨rfl, HM2.out.four _ _ _ _⟩

set_option maxRecDepth 100000 in
set_option maxHeartbeats 1600000 in
theorem rdec_err2 {s : ByteArray} {er : Nat} {a p0 : Nat} (h0 : Sough.get s.data.toList 0 = (a, p0, 0)) {b p1 : Nat} (h1 : Sough.get s.data.toList p0 = (b, p1, 0)) {c p2 : Nat} (h2 : Sough.get s.data.toList p1 = (c, p2, er)) (he : er ≠ 0) (w : World) (hs : s.size ≤ maxLen) :
    Calls Try.prog 18 #[.string s] w fun e w' => e = .returned (.tuple #[.agg #[.int .u64 0, .int .i64 0, .int .i64 0, .string ⟨#[]⟩], .int .i64 er]) ∧ Below w.heap.size w w' := by
  have HS := Lib.hid hs
  have HM := Lib.hid (RecM.start w)
  unfold maxLen at hs
  have hbe : ((er : Int) != 0) = true := by simp; omega
  have H0 := Lib.hid h0; clear h0
  have H1 := Lib.hid h1; clear h1
  have H2 := Lib.hid h2; clear h2
  go_enter Try.func18, Try.ntmps18
  go_wp2_with fail
  refine (rget_as H0.out _ HS.out).mono ?_; rintro e w1 ⟨rfl, hb1⟩
  have M1 := HM.out.later hb1
  have HM1 := Lib.hid M1
  have rc1 := M1.cell
  clear M1 hb1
  go_wp2_with fail
  refine (rget_as H1.out _ HS.out).mono ?_; rintro e w2 ⟨rfl, hb2⟩
  have M2 := HM1.out.later hb2
  have HM2 := Lib.hid M2
  have rc2 := M2.cell
  clear M2 hb2
  go_wp2_with fail
  refine (rget_as H2.out _ HS.out).mono ?_; rintro e w3 ⟨rfl, hb3⟩
  have M3 := HM2.out.later hb3
  have HM3 := Lib.hid M3
  have rc3 := M3.cell
  clear M3 hb3
  go_wp2_with fail
  refine bodyPost_ret (v := .tuple #[.agg #[.int .u64 0, .int .i64 0, .int .i64 0, .string ⟨#[]⟩], .int .i64 er]) (by simp [results, Try.results18, go_sem, rc3]) rfl ⟨rfl, HM3.out.four _ _ _ _⟩

set_option maxRecDepth 100000 in
set_option maxHeartbeats 1600000 in
theorem rdec_bigb {s : ByteArray} {a p0 : Nat} (h0 : Sough.get s.data.toList 0 = (a, p0, 0)) {b p1 : Nat} (h1 : Sough.get s.data.toList p0 = (b, p1, 0)) {c p2 : Nat} (h2 : Sough.get s.data.toList p1 = (c, p2, 0)) (hx : 15 < b) (w : World) (hs : s.size ≤ maxLen) :
    Calls Try.prog 18 #[.string s] w fun e w' => e = .returned (.tuple #[.agg #[.int .u64 0, .int .i64 0, .int .i64 0, .string ⟨#[]⟩], .int .i64 3]) ∧ Below w.heap.size w w' := by
  have HS := Lib.hid hs
  have HM := Lib.hid (RecM.start w)
  unfold maxLen at hs
  have hd : decide ((15 : Int) < b) = true := by simp; omega
  have H0 := Lib.hid h0; clear h0
  have H1 := Lib.hid h1; clear h1
  have H2 := Lib.hid h2; clear h2
  go_enter Try.func18, Try.ntmps18
  go_wp2_with fail
  refine (rget_as H0.out _ HS.out).mono ?_; rintro e w1 ⟨rfl, hb1⟩
  have M1 := HM.out.later hb1
  have HM1 := Lib.hid M1
  have rc1 := M1.cell
  clear M1 hb1
  go_wp2_with fail
  refine (rget_as H1.out _ HS.out).mono ?_; rintro e w2 ⟨rfl, hb2⟩
  have M2 := HM1.out.later hb2
  have HM2 := Lib.hid M2
  have rc2 := M2.cell
  clear M2 hb2
  go_wp2_with fail
  refine (rget_as H2.out _ HS.out).mono ?_; rintro e w3 ⟨rfl, hb3⟩
  have M3 := HM2.out.later hb3
  have HM3 := Lib.hid M3
  have rc3 := M3.cell
  clear M3 hb3
  go_wp2_with fail
  refine bodyPost_ret (v := .tuple #[.agg #[.int .u64 0, .int .i64 0, .int .i64 0, .string ⟨#[]⟩], .int .i64 3]) (by simp [results, Try.results18, go_sem, rc3]) rfl ⟨rfl, HM3.out.four _ _ _ _⟩

set_option maxRecDepth 100000 in
set_option maxHeartbeats 1600000 in
theorem rdec_bigc {s : ByteArray} {a p0 : Nat} (h0 : Sough.get s.data.toList 0 = (a, p0, 0)) {b p1 : Nat} (h1 : Sough.get s.data.toList p0 = (b, p1, 0)) {c p2 : Nat} (h2 : Sough.get s.data.toList p1 = (c, p2, 0)) (hx0 : b ≤ 15) (hx : 16 < c) (w : World) (hs : s.size ≤ maxLen) :
    Calls Try.prog 18 #[.string s] w fun e w' => e = .returned (.tuple #[.agg #[.int .u64 0, .int .i64 0, .int .i64 0, .string ⟨#[]⟩], .int .i64 3]) ∧ Below w.heap.size w w' := by
  have HS := Lib.hid hs
  have HM := Lib.hid (RecM.start w)
  unfold maxLen at hs
  have hd0 : decide ((15 : Int) < b) = false := by simp; omega
  have hd : decide ((16 : Int) < c) = true := by simp; omega
  have H0 := Lib.hid h0; clear h0
  have H1 := Lib.hid h1; clear h1
  have H2 := Lib.hid h2; clear h2
  go_enter Try.func18, Try.ntmps18
  go_wp2_with fail
  refine (rget_as H0.out _ HS.out).mono ?_; rintro e w1 ⟨rfl, hb1⟩
  have M1 := HM.out.later hb1
  have HM1 := Lib.hid M1
  have rc1 := M1.cell
  clear M1 hb1
  go_wp2_with fail
  refine (rget_as H1.out _ HS.out).mono ?_; rintro e w2 ⟨rfl, hb2⟩
  have M2 := HM1.out.later hb2
  have HM2 := Lib.hid M2
  have rc2 := M2.cell
  clear M2 hb2
  go_wp2_with fail
  refine (rget_as H2.out _ HS.out).mono ?_; rintro e w3 ⟨rfl, hb3⟩
  have M3 := HM2.out.later hb3
  have HM3 := Lib.hid M3
  have rc3 := M3.cell
  clear M3 hb3
  go_wp2_with fail
  refine bodyPost_ret (v := .tuple #[.agg #[.int .u64 0, .int .i64 0, .int .i64 0, .string ⟨#[]⟩], .int .i64 3]) (by simp [results, Try.results18, go_sem, rc3]) rfl ⟨rfl, HM3.out.four _ _ _ _⟩

set_option maxRecDepth 100000 in
set_option maxHeartbeats 1600000 in
theorem rdec_bad {s : ByteArray} {a p0 : Nat} (h0 : Sough.get s.data.toList 0 = (a, p0, 0)) {b p1 : Nat} (h1 : Sough.get s.data.toList p0 = (b, p1, 0)) {c p2 : Nat} (h2 : Sough.get s.data.toList p1 = (c, p2, 0)) (hr : Sough.Frag.right ⟨a, b, c, (s.extract p2 s.size).data.toList⟩ = false) (hb : b ≤ 15) (hc : c ≤ 16) (w : World) (hs : s.size ≤ maxLen) :
    Calls Try.prog 18 #[.string s] w fun e w' => e = .returned (.tuple #[.agg #[.int .u64 0, .int .i64 0, .int .i64 0, .string ⟨#[]⟩], .int .i64 3]) ∧ Below w.heap.size w w' := by
  have HS := Lib.hid hs
  have HM := Lib.hid (RecM.start w)
  unfold maxLen at hs
  have hd0 : decide ((15 : Int) < b) = false := by simp; omega
  have hd : decide ((16 : Int) < c) = false := by simp; omega
  have hp2 : p2 ≤ s.size := by simpa using (get_bounds h2).1
  have wb : IntKind.i64.wrap b = b := by rw [IntKind.wrap_i64]; omega
  have wc : IntKind.i64.wrap c = c := by rw [IntKind.wrap_i64]; omega
  have H0 := Lib.hid h0; clear h0
  have H1 := Lib.hid h1; clear h1
  have H2 := Lib.hid h2; clear h2
  go_enter Try.func18, Try.ntmps18
  go_wp2_with fail
  refine (rget_as H0.out _ HS.out).mono ?_; rintro e w1 ⟨rfl, hb1⟩
  have M1 := HM.out.later hb1
  have HM1 := Lib.hid M1
  have rc1 := M1.cell
  clear M1 hb1
  go_wp2_with fail
  refine (rget_as H1.out _ HS.out).mono ?_; rintro e w2 ⟨rfl, hb2⟩
  have M2 := HM1.out.later hb2
  have HM2 := Lib.hid M2
  have rc2 := M2.cell
  clear M2 hb2
  go_wp2_with fail
  refine (rget_as H2.out _ HS.out).mono ?_; rintro e w3 ⟨rfl, hb3⟩
  have M3 := HM2.out.later hb3
  have HM3 := Lib.hid M3
  have rc3 := M3.cell
  clear M3 hb3
  have hz0 : w.heap.size < w3.heap.size := by have := HM3.out.size; omega
  clear rc1 rc2
  go_wp2_with fail
  refine (rright_walk _ _ _ _ _).mono ?_; rintro e w4 ⟨rfl, hb4⟩
  rw [hr]
  have hbW : Below w3.heap.size w3 w4 := ((Below.refl _ _).alloc (Nat.le_refl _) _).trans (hb4.mono (by simp))
  have M5 := HM3.out.later hbW
  have rr5 := M5.cell
  go_wp2_with fail
  refine bodyPost_ret (v := .tuple #[.agg #[.int .u64 0, .int .i64 0, .int .i64 0, .string ⟨#[]⟩], .int .i64 3]) (by simp [results, Try.results18, go_sem, rr5]) rfl ⟨rfl, M5.four _ _ _ _⟩

set_option maxRecDepth 100000 in
set_option maxHeartbeats 1600000 in
theorem rdec_good {s : ByteArray} {a p0 : Nat} (h0 : Sough.get s.data.toList 0 = (a, p0, 0)) {b p1 : Nat} (h1 : Sough.get s.data.toList p0 = (b, p1, 0)) {c p2 : Nat} (h2 : Sough.get s.data.toList p1 = (c, p2, 0)) (hr : Sough.Frag.right ⟨a, b, c, (s.extract p2 s.size).data.toList⟩ = true) (hb : b ≤ 15) (hc : c ≤ 16) (w : World) (hs : s.size ≤ maxLen) :
    Calls Try.prog 18 #[.string s] w fun e w' => e = .returned (.tuple #[.agg #[.int .u64 a, .int .i64 b, .int .i64 c, .string (s.extract p2 s.size)], .int .i64 0]) ∧ Below w.heap.size w w' := by
  have HS := Lib.hid hs
  have HM := Lib.hid (RecM.start w)
  unfold maxLen at hs
  have hd0 : decide ((15 : Int) < b) = false := by simp; omega
  have hd : decide ((16 : Int) < c) = false := by simp; omega
  have hp2 : p2 ≤ s.size := by simpa using (get_bounds h2).1
  have wb : IntKind.i64.wrap b = b := by rw [IntKind.wrap_i64]; omega
  have wc : IntKind.i64.wrap c = c := by rw [IntKind.wrap_i64]; omega
  have H0 := Lib.hid h0; clear h0
  have H1 := Lib.hid h1; clear h1
  have H2 := Lib.hid h2; clear h2
  go_enter Try.func18, Try.ntmps18
  go_wp2_with fail
  refine (rget_as H0.out _ HS.out).mono ?_; rintro e w1 ⟨rfl, hb1⟩
  have M1 := HM.out.later hb1
  have HM1 := Lib.hid M1
  have rc1 := M1.cell
  clear M1 hb1
  go_wp2_with fail
  refine (rget_as H1.out _ HS.out).mono ?_; rintro e w2 ⟨rfl, hb2⟩
  have M2 := HM1.out.later hb2
  have HM2 := Lib.hid M2
  have rc2 := M2.cell
  clear M2 hb2
  go_wp2_with fail
  refine (rget_as H2.out _ HS.out).mono ?_; rintro e w3 ⟨rfl, hb3⟩
  have M3 := HM2.out.later hb3
  have HM3 := Lib.hid M3
  have rc3 := M3.cell
  clear M3 hb3
  have hz0 : w.heap.size < w3.heap.size := by have := HM3.out.size; omega
  clear rc1 rc2
  go_wp2_with fail
  refine (rright_walk _ _ _ _ _).mono ?_; rintro e w4 ⟨rfl, hb4⟩
  rw [hr]
  have hbW : Below w3.heap.size w3 w4 := ((Below.refl _ _).alloc (Nat.le_refl _) _).trans (hb4.mono (by simp))
  have M5 := HM3.out.later hbW
  have rr5 := M5.cell
  have c0 := hb4.cell (p := ⟨w3.heap.size, 0, none⟩) (by simp)
  have c1 := hb4.cell (p := ⟨w3.heap.size, 1, none⟩) (by simp)
  have c2 := hb4.cell (p := ⟨w3.heap.size, 2, none⟩) (by simp)
  have c3 := hb4.cell (p := ⟨w3.heap.size, 3, none⟩) (by simp)
  simp at c0 c1 c2 c3
  go_wp2_with fail
  refine bodyPost_ret (v := .tuple #[.agg #[.int .u64 a, .int .i64 b, .int .i64 c, .string (s.extract p2 s.size)], .int .i64 0]) (by simp [results, Try.results18, go_sem, rr5]) rfl ⟨rfl, M5.four _ _ _ _⟩

/-- soughref11.Decode. -/
theorem rdec_as {s : ByteArray} {f : Sough.Frag} {er : Nat} (hd : Sough.decode s.data.toList = (f, er)) (w : World) (hs : s.size ≤ maxLen) :
    Calls Try.prog 18 #[.string s] w fun e w' => e = .returned (.tuple #[fragV f, .int .i64 er]) ∧ Below w.heap.size w w' := by
  rcases h0 : Sough.get s.data.toList 0 with ⟨a, p0, e0⟩
  rcases h1 : Sough.get s.data.toList p0 with ⟨b, p1, e1⟩
  rcases h2 : Sough.get s.data.toList p1 with ⟨c, p2, e2⟩
  by_cases q0 : e0 = 0
  · subst q0
    by_cases q1 : e1 = 0
    · subst q1
      by_cases q2 : e2 = 0
      · subst q2
        have hd' : (if Sough.Frag.ok ⟨a, b, c, s.data.toList.drop p2⟩ then ((⟨a, b, c, s.data.toList.drop p2⟩ : Sough.Frag), 0) else (Sough.zeroFrag, 3)) = (f, er) := by
          rw [← hd]; simp [Sough.decode, h0, h1, h2]
        clear hd
        by_cases hok : Sough.Frag.ok ⟨a, b, c, s.data.toList.drop p2⟩
        · rw [if_pos hok] at hd'
          obtain ⟨rfl, rfl⟩ := Prod.mk.inj hd'
          have hok' := hok
          obtain ⟨k1, k2, k3, k4, k5, k6, k7, k8⟩ := hok
          simp only at k1 k2 k3 k4 k5 k6 k7 k8
          have := rdec_good h0 h1 h2 (by rw [ext_list]; exact (Sough.right_iff _).2 hok') (by omega) (by omega) w hs
          rw [ext_bytes] at this
          exact this
        · rw [if_neg hok] at hd'
          obtain ⟨rfl, rfl⟩ := Prod.mk.inj hd'
          by_cases hb : 15 < b
          · exact rdec_bigb h0 h1 h2 hb w hs
          · by_cases hc : 16 < c
            · exact rdec_bigc h0 h1 h2 (by omega) hc w hs
            · exact rdec_bad h0 h1 h2 (by rw [ext_list, Bool.eq_false_iff]; exact fun h => hok ((Sough.right_iff _).1 h)) (by omega) (by omega) w hs
      · have : Sough.decode s.data.toList = (Sough.zeroFrag, e2) := by simp [Sough.decode, h0, h1, h2, q2]
        obtain ⟨rfl, rfl⟩ := Prod.mk.inj (hd.symm.trans this)
        exact rdec_err2 h0 h1 h2 q2 w hs
    · have : Sough.decode s.data.toList = (Sough.zeroFrag, e1) := by simp [Sough.decode, h0, h1, q1]
      obtain ⟨rfl, rfl⟩ := Prod.mk.inj (hd.symm.trans this)
      exact rdec_err1 h0 h1 q1 w hs
  · have : Sough.decode s.data.toList = (Sough.zeroFrag, e0) := by simp [Sough.decode, h0, q0]
    obtain ⟨rfl, rfl⟩ := Prod.mk.inj (hd.symm.trans this)
    exact rdec_err0 h0 q0 w hs

end Go.Proofs.Ytkogjhdcakjpeaa
