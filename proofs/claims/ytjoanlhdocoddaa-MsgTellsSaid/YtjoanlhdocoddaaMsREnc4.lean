/- The walk of soughref10.Encode at kind 4 (printed by wip/tools/mkre.py). -/
import Derived.Test.YtjoanlhdocoddaaMsREnc
namespace Go.Proofs.Ytjoanlhdocoddaa
open Go.RowKit Go.Maps Go.ChangeMaps

set_option maxRecDepth 100000 in
set_option maxHeartbeats 6400000 in
theorem re4 (m : Sough.Msg) (w : World) (hwf : m.Wf) (hr : (Sough.wk 4 m).right = true) : Calls Try.prog 16 #[.agg (msgC (Sough.wk 4 m))] w fun e w' => e = .returned (.string ⟨(Sough.wk 4 m).bytes.toArray⟩) ∧ Below w.heap.size w w' := by
  obtain ⟨_, hall, _⟩ := Sough.right_spec hr
  have g2 : 1 ≤ m.v 2 ∧ m.v 2 ≤ 4294967296 := of_decide_eq_true (hall (Sough.number 2) (by show _ ∈ Sough.flds 4; decide))
  have g11 : 0 ≤ m.v 11 ∧ m.v 11 ≤ 1000 := of_decide_eq_true (hall ⟨11, 0, 1000⟩ (by show _ ∈ Sough.flds 4; decide))
  have g12 : 0 ≤ m.v 12 ∧ m.v 12 ≤ 255 := of_decide_eq_true (hall ⟨12, 0, 255⟩ (by show _ ∈ Sough.flds 4; decide))
  have g9 : 1 ≤ m.v 9 ∧ m.v 9 ≤ 1048576 := of_decide_eq_true (hall (Sough.name 9) (by show _ ∈ Sough.flds 4; decide))
  have hby : (Sough.wk 4 m).bytes = Sough.put 4 ++ (Sough.put (m.v 2).toNat ++ (Sough.put (m.v 11).toNat ++ (Sough.put (m.v 12).toNat ++ (Sough.numsL [m.v 9])))) := rfl
  rw [hby]
  have CR := Lib.hid (rr4_lit hr hwf)
  have C2 := Lib.hid (fun w => rput_any (m.v 2) (by omega) (by omega) w)
  have C11 := Lib.hid (fun w => rput_any (m.v 11) (by omega) (by omega) w)
  have C12 := Lib.hid (fun w => rput_any (m.v 12) (by omega) (by omega) w)
  have l0 := (Sough.put_len 4).2
  have l2 := (Sough.put_len (m.v 2).toNat).2
  have l11 := (Sough.put_len (m.v 11).toNat).2
  have l12 := (Sough.put_len (m.v 12).toNat).2
  have ln : (Sough.numsL [m.v 9]).length ≤ 10 := Sough.numsL_len _
  have HN : Hid (∀ x ∈ [m.v 9], 0 ≤ x ∧ x < 18446744073709551616) := Lib.hid (by intro x hx; simp at hx; omega)
  clear hby hall hr hwf
  change Calls _ _ #[.agg #[.int .i64 4, .int .u64 (m.v 1), .int .u64 (m.v 2), .string ⟨m.offer.toArray⟩, .int .i64 (m.v 4), .int .i64 (m.v 5), .int .i64 (m.v 6), .int .i64 (m.v 7), .int .i64 (m.v 8), .int .i64 (m.v 9), .int .i64 (m.v 10), .int .u64 (m.v 11), .int .u64 (m.v 12)]] w _
  have M0 : Hid (Mem w [(w.heap.size, .cells #[.int .i64 4, .int .u64 (m.v 1), .int .u64 (m.v 2), .string ⟨m.offer.toArray⟩, .int .i64 (m.v 4), .int .i64 (m.v 5), .int .i64 (m.v 6), .int .i64 (m.v 7), .int .i64 (m.v 8), .int .i64 (m.v 9), .int .i64 (m.v 10), .int .u64 (m.v 11), .int .u64 (m.v 12)] 29 (0, 0))] (w.alloc (.cells #[.int .i64 4, .int .u64 (m.v 1), .int .u64 (m.v 2), .string ⟨m.offer.toArray⟩, .int .i64 (m.v 4), .int .i64 (m.v 5), .int .i64 (m.v 6), .int .i64 (m.v 7), .int .i64 (m.v 8), .int .i64 (m.v 9), .int .i64 (m.v 10), .int .u64 (m.v 11), .int .u64 (m.v 12)] 29))) := Lib.hid ((Mem.start w).alloc _)
  go_enter Try.func16, Try.ntmps16
  go_wp2_with fail
  generalize w.alloc (.cells #[.int .i64 4, .int .u64 (m.v 1), .int .u64 (m.v 2), .string ⟨m.offer.toArray⟩, .int .i64 (m.v 4), .int .i64 (m.v 5), .int .i64 (m.v 6), .int .i64 (m.v 7), .int .i64 (m.v 8), .int .i64 (m.v 9), .int .i64 (m.v 10), .int .u64 (m.v 11), .int .u64 (m.v 12)] 29) = W0 at *
  refine (CR.out _).mono ?_
  rintro e w1 ⟨rfl, hb⟩
  have M1 := Lib.hid (M0.out.later hb)
  clear hb M0
  have r := M1.out.rules; simp only [AllCells, CellsAt, Nat.zero_add, Nat.reduceAdd] at r
  go_wp2_with fail
  refine (nums_at (l := [4]) rfl (by decide) (by simp) rfl _ (heap_alloc_new _ _)).mono ?_
  rintro e w2 ⟨rfl, hb⟩
  have M2 := Lib.hid ((M1.out.alloc (.cells #[.int .i64 4] 3)).later hb)
  clear hb M1 r
  have r := M2.out.rules; simp only [AllCells, CellsAt, Nat.zero_add, Nat.reduceAdd] at r
  have e1 : Sough.numsL [4] = Sough.put 4 := by simp [Sough.numsL]
  rw [e1]
  clear e1
  go_wp2_with fail
  refine (C2.out _).mono ?_
  rintro e w3 ⟨rfl, hb⟩
  have M3 := Lib.hid (M2.out.later hb)
  clear hb M2 r
  have r := M3.out.rules; simp only [AllCells, CellsAt, Nat.zero_add, Nat.reduceAdd] at r
  go_wp2_with fail
  rw [bytes_append]
  obtain ⟨S1, hS1⟩ : ∃ S1, S1 = Sough.put 4 ++ Sough.put (m.v 2).toNat := ⟨_, rfl⟩
  have ls1 : S1.length ≤ 40 := by rw [hS1]; simp only [List.length_append]; omega
  rw [← hS1]
  have HS1 := Lib.hid hS1
  clear hS1
  have hlt := M3.out.lt 1 rfl
  have cell_11 : w3.cell? ⟨w.heap.size, 11, none⟩ = some (.int .u64 (m.v 11)) := by have h := M3.out.get 1 rfl; simp [World.cell?, h]
  have cell_12 : w3.cell? ⟨w.heap.size, 12, none⟩ = some (.int .u64 (m.v 12)) := by have h := M3.out.get 1 rfl; simp [World.cell?, h]
  have cell_9 : w3.cell? ⟨w.heap.size, 9, none⟩ = some (.int .i64 (m.v 9)) := by have h := M3.out.get 1 rfl; simp [World.cell?, h]
  clear r
  refine wp_facts (n := 86) [] [.val fun _ => .string ⟨S1.toArray⟩,
    .val fun _ => .pointer (some ⟨w.heap.size, 11, none⟩),
    .val fun _ => .int .u64 (m.v 11),
    .val fun _ => .string ⟨(Sough.put (m.v 11).toNat).toArray⟩,
    .val fun _ => .string ⟨(S1 ++ Sough.put (m.v 11).toNat).toArray⟩,
    .val fun _ => .pointer (some ⟨w.heap.size, 12, none⟩),
    .val fun _ => .int .u64 (m.v 12),
    .val fun _ => .string ⟨(Sough.put (m.v 12).toNat).toArray⟩,
    .val fun _ => .string ⟨(S1 ++ Sough.put (m.v 11).toNat ++ Sough.put (m.v 12).toNat).toArray⟩,
    .val fun _ => .pointer (some ⟨w.heap.size, 9, none⟩),
    .val fun _ => .int .i64 (m.v 9),
    .blk (fun g => .slice (some ⟨g, 0, none⟩) 1 1) 3 (fun _ => #[.int .i64 (m.v 9)]) 15 (fun _ => #[]),
    .val fun _ => .string ⟨(Sough.numsL [m.v 9]).toArray⟩,
    .val fun _ => .string ⟨(S1 ++ Sough.put (m.v 11).toNat ++ Sough.put (m.v 12).toNat ++ Sough.numsL [m.v 9]).toArray⟩,
    .val fun _ => .string ⟨(S1 ++ Sough.put (m.v 11).toNat ++ Sough.put (m.v 12).toNat ++ Sough.numsL [m.v 9]).toArray⟩] (fun _ => True) (fun _ _ _ _ => True) (by kernel_rfl) (by kernel_rfl) rfl rfl (by simp) trivial (fun _ _ _ _ => trivial) (fun _ _ _ _ _ _ _ => trivial) ?_ ?_
  · refine ⟨?_, ?_, ?_, ?_, ?_, ?_, ?_, ?_, ?_, ?_, ?_, ?_, ?_, ?_, ?_, trivial⟩
    · refine ⟨fun _ _ _ => rfl, ?_⟩
      intro v x hx hk
      refine .inl ⟨wanted_none rfl, ?_⟩
      simp only [putAll, Act.put, List.setIfInBounds_toArray, List.set_cons_succ, List.set_cons_zero]
      refine val_of_quiet (ops := #[]) rfl ?_
      go_big_quiet_step (fail)
      exact wpQuiet_nil (by first | rfl | simp [bytes_append, List.append_assoc])
    · refine ⟨fun _ _ _ => rfl, ?_⟩
      intro v x hx hk
      refine .inl ⟨wanted_none rfl, ?_⟩
      simp only [putAll, Act.put, List.setIfInBounds_toArray, List.set_cons_succ, List.set_cons_zero]
      refine val_of_quiet (ops := #[]) rfl ?_
      go_big_quiet_step (fail)
      exact wpQuiet_nil (by first | rfl | simp [bytes_append, List.append_assoc])
    · refine ⟨fun _ _ _ => rfl, ?_⟩
      intro v x hx hk
      have e1 : v 1 = .pointer (some ⟨w.heap.size, 11, none⟩) := hk 1 (by decide)
      have y0 := turned_cells hx cell_11 (by simp)
      refine .inl ⟨wanted_none rfl, ?_⟩
      simp only [putAll, Act.put, List.setIfInBounds_toArray, List.set_cons_succ, List.set_cons_zero, e1]
      refine val_of_quiet (ops := #[]) rfl ?_
      go_big_quiet_step (fail)
      exact wpQuiet_nil (by first | rfl | simp [bytes_append, List.append_assoc])
    · refine ⟨fun _ _ _ => rfl, ?_⟩
      intro v x hx hk
      have e2 : v 2 = .int .u64 (m.v 11) := hk 2 (by decide)
      refine .inl ⟨wanted_none rfl, ?_⟩
      simp only [putAll, Act.put, List.setIfInBounds_toArray, List.set_cons_succ, List.set_cons_zero, e2]
      refine val_of_quiet (ops := #[]) rfl ?_
      go_big_quiet_step ((go_at_call 36; exact Calls.later (C11.out _)))
      exact wpQuiet_nil (by first | rfl | simp [bytes_append, List.append_assoc])
    · refine ⟨fun _ _ _ => rfl, ?_⟩
      intro v x hx hk
      have e0 : v 0 = .string ⟨S1.toArray⟩ := hk 0 (by decide)
      have e3 : v 3 = .string ⟨(Sough.put (m.v 11).toNat).toArray⟩ := hk 3 (by decide)
      refine .inl ⟨wanted_none rfl, ?_⟩
      simp only [putAll, Act.put, List.setIfInBounds_toArray, List.set_cons_succ, List.set_cons_zero, e0, e3]
      refine val_of_quiet (ops := #[]) rfl ?_
      go_big_quiet_step (fail)
      exact wpQuiet_nil (by first | rfl | simp [bytes_append, List.append_assoc])
    · refine ⟨fun _ _ _ => rfl, ?_⟩
      intro v x hx hk
      refine .inl ⟨wanted_none rfl, ?_⟩
      simp only [putAll, Act.put, List.setIfInBounds_toArray, List.set_cons_succ, List.set_cons_zero]
      refine val_of_quiet (ops := #[]) rfl ?_
      go_big_quiet_step (fail)
      exact wpQuiet_nil (by first | rfl | simp [bytes_append, List.append_assoc])
    · refine ⟨fun _ _ _ => rfl, ?_⟩
      intro v x hx hk
      have e5 : v 5 = .pointer (some ⟨w.heap.size, 12, none⟩) := hk 5 (by decide)
      have y0 := turned_cells hx cell_12 (by simp)
      refine .inl ⟨wanted_none rfl, ?_⟩
      simp only [putAll, Act.put, List.setIfInBounds_toArray, List.set_cons_succ, List.set_cons_zero, e5]
      refine val_of_quiet (ops := #[]) rfl ?_
      go_big_quiet_step (fail)
      exact wpQuiet_nil (by first | rfl | simp [bytes_append, List.append_assoc])
    · refine ⟨fun _ _ _ => rfl, ?_⟩
      intro v x hx hk
      have e6 : v 6 = .int .u64 (m.v 12) := hk 6 (by decide)
      refine .inl ⟨wanted_none rfl, ?_⟩
      simp only [putAll, Act.put, List.setIfInBounds_toArray, List.set_cons_succ, List.set_cons_zero, e6]
      refine val_of_quiet (ops := #[]) rfl ?_
      go_big_quiet_step ((go_at_call 36; exact Calls.later (C12.out _)))
      exact wpQuiet_nil (by first | rfl | simp [bytes_append, List.append_assoc])
    · refine ⟨fun _ _ _ => rfl, ?_⟩
      intro v x hx hk
      have e4 : v 4 = .string ⟨(S1 ++ Sough.put (m.v 11).toNat).toArray⟩ := hk 4 (by decide)
      have e7 : v 7 = .string ⟨(Sough.put (m.v 12).toNat).toArray⟩ := hk 7 (by decide)
      refine .inl ⟨wanted_none rfl, ?_⟩
      simp only [putAll, Act.put, List.setIfInBounds_toArray, List.set_cons_succ, List.set_cons_zero, e4, e7]
      refine val_of_quiet (ops := #[]) rfl ?_
      go_big_quiet_step (fail)
      exact wpQuiet_nil (by first | rfl | simp [bytes_append, List.append_assoc])
    · refine ⟨fun _ _ _ => rfl, ?_⟩
      intro v x hx hk
      refine .inl ⟨wanted_none rfl, ?_⟩
      simp only [putAll, Act.put, List.setIfInBounds_toArray, List.set_cons_succ, List.set_cons_zero]
      refine val_of_quiet (ops := #[]) rfl ?_
      go_big_quiet_step (fail)
      exact wpQuiet_nil (by first | rfl | simp [bytes_append, List.append_assoc])
    · refine ⟨fun _ _ _ => rfl, ?_⟩
      intro v x hx hk
      have e9 : v 9 = .pointer (some ⟨w.heap.size, 9, none⟩) := hk 9 (by decide)
      have y0 := turned_cells hx cell_9 (by simp)
      refine .inl ⟨wanted_none rfl, ?_⟩
      simp only [putAll, Act.put, List.setIfInBounds_toArray, List.set_cons_succ, List.set_cons_zero, e9]
      refine val_of_quiet (ops := #[]) rfl ?_
      go_big_quiet_step (fail)
      exact wpQuiet_nil (by first | rfl | simp [bytes_append, List.append_assoc])
    · refine ⟨fun h => absurd h (by decide), fun _ _ _ => rfl, ?_⟩
      intro v x hx hk
      have e10 : v 10 = .int .i64 (m.v 9) := hk 10 (by decide)
      refine ⟨wanted_none rfl, ?_⟩
      simp only [putAll, Act.put, List.setIfInBounds_toArray, List.set_cons_succ, List.set_cons_zero, e10]
      unfold Oper.wp
      go_simp
    · refine ⟨fun _ _ _ => rfl, ?_⟩
      intro v x hx hk
      obtain ⟨g, e11, hg1, _, hg2⟩ := hk 11 (by decide)
      have zl := fun z : Later x => (z.below.block g (lt_of_block (hg2 (by simp)))).trans (hg2 (by simp))
      refine .inl ⟨wanted_none rfl, ?_⟩
      simp only [putAll, Act.put, List.setIfInBounds_toArray, List.set_cons_succ, List.set_cons_zero, e11]
      refine val_of_quiet (ops := #[]) rfl ?_
      go_big_quiet_step ((go_at_call 35; exact Calls.later (nums_at (l := [m.v 9]) rfl (by simp) HN.out rfl _ (zl _))))
      exact wpQuiet_nil (by first | rfl | simp [bytes_append, List.append_assoc])
    · refine ⟨fun _ _ _ => rfl, ?_⟩
      intro v x hx hk
      have e8 : v 8 = .string ⟨(S1 ++ Sough.put (m.v 11).toNat ++ Sough.put (m.v 12).toNat).toArray⟩ := hk 8 (by decide)
      have e12 : v 12 = .string ⟨(Sough.numsL [m.v 9]).toArray⟩ := hk 12 (by decide)
      refine .inl ⟨wanted_none rfl, ?_⟩
      simp only [putAll, Act.put, List.setIfInBounds_toArray, List.set_cons_succ, List.set_cons_zero, e8, e12]
      refine val_of_quiet (ops := #[]) rfl ?_
      go_big_quiet_step (fail)
      exact wpQuiet_nil (by first | rfl | simp [bytes_append, List.append_assoc])
    · refine ⟨fun _ _ _ => rfl, ?_⟩
      intro v x hx hk
      have e13 : v 13 = .string ⟨(S1 ++ Sough.put (m.v 11).toNat ++ Sough.put (m.v 12).toNat ++ Sough.numsL [m.v 9]).toArray⟩ := hk 13 (by decide)
      refine .inl ⟨wanted_none rfl, ?_⟩
      simp only [putAll, Act.put, List.setIfInBounds_toArray, List.set_cons_succ, List.set_cons_zero, e13]
      refine val_of_quiet (ops := #[]) rfl ?_
      go_big_quiet_step (fail)
      exact wpQuiet_nil (by first | rfl | simp [bytes_append, List.append_assoc])
  · intro v G x hF
    have q := hF.vals 14 _ rfl rfl
    simp only [putAll, Act.put, List.setIfInBounds_toArray, List.set_cons_succ, List.set_cons_zero, q]
    have HX := Lib.hid (M3.out.bel.trans (hF.tur.toBelow (by simp) M3.out.bel.size))
    clear hF q
    go_wp2_with fail
    go_ret
    exact ⟨by rw [HS1.out]; simp [List.append_assoc], HX.out⟩

end Go.Proofs.Ytjoanlhdocoddaa
