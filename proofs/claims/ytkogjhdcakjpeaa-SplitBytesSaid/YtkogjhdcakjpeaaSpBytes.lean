/- The walk of the law SplitBytes. -/
import Derived.Test.YtkogjhdcakjpeaaSpF
import Derived.Test.YtkogjhdcakjpeaaSpFixed
namespace Go.Proofs.Ytkogjhdcakjpeaa
open Go.RowKit Go.Shelf

set_option maxRecDepth 100000 in
set_option maxHeartbeats 3200000 in
theorem bytes_any (FX : FixedOk) {f g a : Sough.Frag} {s s1 : ByteArray} {er : Nat} {l : List UInt8} {r : Bool} (hg : Sough.cutF f = g) (h1 : s.extract 0 (min (s.size : Int) 1100).toNat = s1) (hd : Sough.decode s1.data.toList = (a, er)) (hl : g.encode = l) (hr : g.right = r)
    (hf : f.part.length ≤ maxLen) (hs : s.size ≤ maxLen) (w : World) :
    Calls Try.prog 4 #[.agg #[.int .u64 f.id, .int .i64 f.index, .int .i64 f.count, .string ⟨f.part.toArray⟩], .string s] w fun e w' => e = .returned (.bool true) ∧ Below w.heap.size w w' := by
  have hs1 : s1.size ≤ maxLen := by rw [← h1]; simp [maxLen] at hs ⊢; omega
  have CG := Lib.hid (fun w => lcut_as hg hf w)
  have CD := Lib.hid (fun w => dec_f hd hs1 w)
  have CRD := Lib.hid (fun w => rdec_f hd hs1 w)
  have CE := Lib.hid (fun w => encode_as hl w)
  have CRE := Lib.hid (fun w => rencode_as hl w)
  have CR := Lib.hid (fun w => right_as hr w)
  have CRR := Lib.hid (fun w => rright_as hr w)
  have FX' := Lib.hid FX
  have HD := Lib.hid hd
  unfold maxLen at hs
  clear FX hg hd hl hr hf hs1
  have M0 := Lib.hid ((Mem.start w).alloc (.cells #[.int .u64 f.id, .int .i64 f.index, .int .i64 f.count, .string ⟨f.part.toArray⟩] 26))
  go_enter Try.func4, Try.ntmps4
  go_wp2_with fail
  refine (CG.out _).mono ?_; rintro e w1 ⟨rfl, hb⟩
  have M1 := Lib.hid (M0.out.later hb); clear hb M0
  have r1 := M1.out.rules; simp only [AllCells, CellsAt, Nat.zero_add, Nat.reduceAdd] at r1
  have M2 := Lib.hid (M1.out.put4 (Nat.le_refl _) (by simp) (.int .u64 g.id) (.int .i64 g.index) (.int .i64 g.count) (.string ⟨g.part.toArray⟩))
  clear M1
  go_wp2_with fail
  generalize ((((w1.setCell ⟨w.heap.size, 0, none⟩ (.int .u64 g.id)).setCell ⟨w.heap.size, 1, none⟩ (.int .i64 g.index)).setCell ⟨w.heap.size, 2, none⟩ (.int .i64 g.count)).setCell ⟨w.heap.size, 3, none⟩ (.string ⟨g.part.toArray⟩)) = W2 at *
  refine (CD.out _).mono ?_; rintro e w3 ⟨rfl, hb⟩
  have M3 := Lib.hid (M2.out.later hb); clear hb M2
  clear r1 h1
  have M4 := Lib.hid (M3.out.alloc (.cells #[.int .u64 a.id, .int .i64 a.index, .int .i64 a.count, .string ⟨a.part.toArray⟩] 26))
  clear M3
  go_wp2_with fail
  generalize w3.alloc (.cells #[.int .u64 a.id, .int .i64 a.index, .int .i64 a.count, .string ⟨a.part.toArray⟩] 26) = W4 at *
  refine (CRD.out _).mono ?_; rintro e w5 ⟨rfl, hb⟩
  have M5 := Lib.hid (M4.out.later hb); clear hb M4
  have M6 := Lib.hid (M5.out.alloc (.cells #[.int .u64 a.id, .int .i64 a.index, .int .i64 a.count, .string ⟨a.part.toArray⟩] 43))
  have r5 := M5.out.rules; simp only [AllCells, CellsAt, Nat.zero_add, Nat.reduceAdd] at r5
  have z5 : w.heap.size < w5.heap.size := M5.out.lt 1 rfl
  have z6 : w3.heap.size < w5.heap.size := M5.out.lt 0 rfl
  clear M5
  go_wp2_with fail
  generalize w5.alloc (.cells #[.int .u64 a.id, .int .i64 a.index, .int .i64 a.count, .string ⟨a.part.toArray⟩] 43) = W6 at *
  refine (CE.out _).mono ?_; rintro e w7 ⟨rfl, hb⟩
  have M7 := Lib.hid (M6.out.later hb); clear hb M6
  clear r5 z5 z6
  have r7 := M7.out.rulesL; simp only [AllCells, CellsAt, Nat.zero_add, Nat.reduceAdd] at r7
  go_wp2_with fail
  refine wp_region_later (by kernel_rfl) (by kernel_rfl) ?_
  go_big_quiet_step (fail)
  go_big_quiet_step ((go_at_call 20; exact Calls.later (CR.out _)))
  go_big_quiet_step (fail)
  go_big_quiet_step ((go_at_call 22; exact Calls.later (one_as g _)))
  go_big_quiet_step ((go_at_call 21; exact Calls.later (CRR.out _)))
  iterate 4 go_big_quiet_step (fail)
  go_big_quiet_step ((go_at_call 22; exact Calls.later (one_as g _)))
  go_big_quiet_step ((go_at_call 23; exact Calls.later (CRE.out _)))
  iterate 4 go_big_quiet_step (fail)
  go_big_quiet_step ((go_at_call 22; exact Calls.later (one_as a _)))
  iterate 8 go_big_quiet_step (fail)
  refine wpQuiet_nil ?_
  rintro ⟨w8, hb8⟩
  change Exit.then _ _ _ _ w8
  have M8 := Lib.hid (M7.out.later hb8); clear hb8 r7 M7
  by_cases he : er = 0
  · have d : ((er : Int) != 0) = false := by simp [he]
    have hE : a.encode = s1.data.toList := Sough.decode_encode (he ▸ HD.out)
    have CA := fun w => encode_as hE w
    simp only [bytes_toArray] at CA
    have CA' := Lib.hid CA
    clear CA hE he
    have r8 := M8.out.rules; simp only [AllCells, CellsAt, Nat.zero_add, Nat.reduceAdd] at r8
    go_wp2_with fail
    refine (CA'.out _).mono ?_; rintro e w9 ⟨rfl, hb⟩
    have M9 := Lib.hid (M8.out.later hb); clear hb M8
    clear r8
    go_wp2_with fail
    refine (FX'.out _).mono ?_; rintro e w10 ⟨rfl, hb⟩
    have M10 := Lib.hid (M9.out.later hb); clear hb M9
    go_wp2_with fail
    go_ret
    exact ⟨rfl, M10.out.bel⟩
  · have d : ((er : Int) != 0) = true := by simp [he]
    clear he
    go_wp2_with fail
    refine (FX'.out _).mono ?_; rintro e w10 ⟨rfl, hb⟩
    have M10 := Lib.hid (M8.out.later hb); clear hb M8
    go_wp2_with fail
    go_ret
    exact ⟨rfl, M10.out.bel⟩

/-- As the frame wants it. -/
theorem splitBytes_walk (id : Nat) (x c : Int) (p s : ByteArray) (w : World) (hp : p.size ≤ maxLen) (hs : s.size ≤ maxLen) :
    Calls Try.prog 4 #[.agg #[.int .u64 id, .int .i64 x, .int .i64 c, .string p], .string s] w fun e w' => e = .returned (.bool true) ∧ Below w.heap.size w w' := by
  obtain ⟨lp, rfl, hl⟩ := list_of p
  exact bytes_any fixed_walk (f := ⟨id, x, c, lp⟩) rfl rfl rfl rfl rfl (by rw [← hl]; exact hp) hs w

end Go.Proofs.Ytkogjhdcakjpeaa
