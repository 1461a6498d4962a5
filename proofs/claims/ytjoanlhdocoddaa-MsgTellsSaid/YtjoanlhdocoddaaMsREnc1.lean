/- The walk of soughref10.Encode at kind 1 (printed by wip/tools/mkre.py). -/
import Derived.Test.YtjoanlhdocoddaaMsREnc
namespace Go.Proofs.Ytjoanlhdocoddaa
open Go.RowKit Go.Maps Go.ChangeMaps

set_option maxRecDepth 100000 in
set_option maxHeartbeats 6400000 in
theorem re1 (m : Sough.Msg) (w : World) (hwf : m.Wf) (hr : (Sough.wk 1 m).right = true) : Calls Try.prog 16 #[.agg (msgC (Sough.wk 1 m))] w fun e w' => e = .returned (.string ⟨(Sough.wk 1 m).bytes.toArray⟩) ∧ Below w.heap.size w w' := by
  obtain ⟨_, hall, _⟩ := Sough.right_spec hr
  have g1 : 1 ≤ m.v 1 ∧ m.v 1 ≤ 4294967296 := of_decide_eq_true (hall (Sough.number 1) (by show _ ∈ Sough.flds 1; decide))
  have g3 : m.offer.length ≤ 8 := by
    have : Sough.offerOk m.offer = true := hall ⟨3, 0, 0⟩ (by show _ ∈ Sough.flds 1; decide)
    exact (Sough.offer_len this).2
  have g4 : 0 ≤ m.v 4 ∧ m.v 4 ≤ 1 := of_decide_eq_true (hall ⟨4, 0, 1⟩ (by show _ ∈ Sough.flds 1; decide))
  have g6 : 1 ≤ m.v 6 ∧ m.v 6 ≤ 1048576 := of_decide_eq_true (hall (Sough.name 6) (by show _ ∈ Sough.flds 1; decide))
  have g7 : 1 ≤ m.v 7 ∧ m.v 7 ≤ 1048576 := of_decide_eq_true (hall (Sough.name 7) (by show _ ∈ Sough.flds 1; decide))
  have g8 : 1 ≤ m.v 8 ∧ m.v 8 ≤ 1048576 := of_decide_eq_true (hall (Sough.name 8) (by show _ ∈ Sough.flds 1; decide))
  have g9 : 1 ≤ m.v 9 ∧ m.v 9 ≤ 1048576 := of_decide_eq_true (hall (Sough.name 9) (by show _ ∈ Sough.flds 1; decide))
  have g10 : 1 ≤ m.v 10 ∧ m.v 10 ≤ 1048576 := of_decide_eq_true (hall (Sough.name 10) (by show _ ∈ Sough.flds 1; decide))
  have hby : (Sough.wk 1 m).bytes = Sough.put 1 ++ (Sough.put (m.v 1).toNat ++ (Sough.putText m.offer ++ (Sough.numsL [m.v 4, m.v 6, m.v 7, m.v 8, m.v 9, m.v 10]))) := rfl
  rw [hby]
  have CR := Lib.hid (rr1_lit hr hwf)
  have C1 := Lib.hid (fun w => rput_any (m.v 1) (by omega) (by omega) w)
  have CT := Lib.hid (fun w => rputt_walk ⟨m.offer.toArray⟩ w (by rw [mk_size]; omega))
  have l0 := (Sough.put_len 1).2
  have l1 := (Sough.put_len (m.v 1).toNat).2
  have l3 : (Sough.putText m.offer).length ≤ 18 := by have := (Sough.put_len m.offer.length).2; simp only [Sough.putText, List.length_append]; omega
  have ln : (Sough.numsL [m.v 4, m.v 6, m.v 7, m.v 8, m.v 9, m.v 10]).length ≤ 60 := Sough.numsL_len _
  have HN : Hid (∀ x ∈ [m.v 4, m.v 6, m.v 7, m.v 8, m.v 9, m.v 10], 0 ≤ x ∧ x < 18446744073709551616) := Lib.hid (by intro x hx; simp at hx; omega)
  clear hby hall hr hwf
  change Calls _ _ #[.agg #[.int .i64 1, .int .u64 (m.v 1), .int .u64 (m.v 2), .string ⟨m.offer.toArray⟩, .int .i64 (m.v 4), .int .i64 (m.v 5), .int .i64 (m.v 6), .int .i64 (m.v 7), .int .i64 (m.v 8), .int .i64 (m.v 9), .int .i64 (m.v 10), .int .u64 (m.v 11), .int .u64 (m.v 12)]] w _
  have M0 : Hid (Mem w [(w.heap.size, .cells #[.int .i64 1, .int .u64 (m.v 1), .int .u64 (m.v 2), .string ⟨m.offer.toArray⟩, .int .i64 (m.v 4), .int .i64 (m.v 5), .int .i64 (m.v 6), .int .i64 (m.v 7), .int .i64 (m.v 8), .int .i64 (m.v 9), .int .i64 (m.v 10), .int .u64 (m.v 11), .int .u64 (m.v 12)] 29 (0, 0))] (w.alloc (.cells #[.int .i64 1, .int .u64 (m.v 1), .int .u64 (m.v 2), .string ⟨m.offer.toArray⟩, .int .i64 (m.v 4), .int .i64 (m.v 5), .int .i64 (m.v 6), .int .i64 (m.v 7), .int .i64 (m.v 8), .int .i64 (m.v 9), .int .i64 (m.v 10), .int .u64 (m.v 11), .int .u64 (m.v 12)] 29))) := Lib.hid ((Mem.start w).alloc _)
  go_enter Try.func16, Try.ntmps16
  go_wp2_with fail
  generalize w.alloc (.cells #[.int .i64 1, .int .u64 (m.v 1), .int .u64 (m.v 2), .string ⟨m.offer.toArray⟩, .int .i64 (m.v 4), .int .i64 (m.v 5), .int .i64 (m.v 6), .int .i64 (m.v 7), .int .i64 (m.v 8), .int .i64 (m.v 9), .int .i64 (m.v 10), .int .u64 (m.v 11), .int .u64 (m.v 12)] 29) = W0 at *
  refine (CR.out _).mono ?_
  rintro e w1 ⟨rfl, hb⟩
  have M1 := Lib.hid (M0.out.later hb)
  clear hb M0
  have r := M1.out.rules; simp only [AllCells, CellsAt, Nat.zero_add, Nat.reduceAdd] at r
  go_wp2_with fail
  refine (nums_at (l := [1]) rfl (by decide) (by simp) rfl _ (heap_alloc_new _ _)).mono ?_
  rintro e w2 ⟨rfl, hb⟩
  have M2 := Lib.hid ((M1.out.alloc (.cells #[.int .i64 1] 3)).later hb)
  clear hb M1 r
  have r := M2.out.rules; simp only [AllCells, CellsAt, Nat.zero_add, Nat.reduceAdd] at r
  have e1 : Sough.numsL [1] = Sough.put 1 := by simp [Sough.numsL]
  rw [e1]
  clear e1
  go_wp2_with fail
  refine (C1.out _).mono ?_
  rintro e w3 ⟨rfl, hb⟩
  have M3 := Lib.hid (M2.out.later hb)
  clear hb M2 r
  have r := M3.out.rules; simp only [AllCells, CellsAt, Nat.zero_add, Nat.reduceAdd] at r
  go_wp2_with fail
  rw [bytes_append]
  obtain ⟨S1, hS1⟩ : ∃ S1, S1 = Sough.put 1 ++ Sough.put (m.v 1).toNat := ⟨_, rfl⟩
  have ls1 : S1.length ≤ 40 := by rw [hS1]; simp only [List.length_append]; omega
  rw [← hS1]
  have HS1 := Lib.hid hS1
  clear hS1
  have hlt := M3.out.lt 1 rfl
  have cell_3 : w3.cell? ⟨w.heap.size, 3, none⟩ = some (.string ⟨m.offer.toArray⟩) := by have h := M3.out.get 1 rfl; simp [World.cell?, h]
  have cell_4 : w3.cell? ⟨w.heap.size, 4, none⟩ = some (.int .i64 (m.v 4)) := by have h := M3.out.get 1 rfl; simp [World.cell?, h]
  have cell_6 : w3.cell? ⟨w.heap.size, 6, none⟩ = some (.int .i64 (m.v 6)) := by have h := M3.out.get 1 rfl; simp [World.cell?, h]
  have cell_7 : w3.cell? ⟨w.heap.size, 7, none⟩ = some (.int .i64 (m.v 7)) := by have h := M3.out.get 1 rfl; simp [World.cell?, h]
  have cell_8 : w3.cell? ⟨w.heap.size, 8, none⟩ = some (.int .i64 (m.v 8)) := by have h := M3.out.get 1 rfl; simp [World.cell?, h]
  have cell_9 : w3.cell? ⟨w.heap.size, 9, none⟩ = some (.int .i64 (m.v 9)) := by have h := M3.out.get 1 rfl; simp [World.cell?, h]
  have cell_10 : w3.cell? ⟨w.heap.size, 10, none⟩ = some (.int .i64 (m.v 10)) := by have h := M3.out.get 1 rfl; simp [World.cell?, h]
  clear r
  refine wp_facts (n := 86) [] [.val fun _ => .string ⟨S1.toArray⟩,
    .val fun _ => .pointer (some ⟨w.heap.size, 3, none⟩),
    .val fun _ => .string ⟨m.offer.toArray⟩,
    .val fun _ => .string ⟨(Sough.putText m.offer).toArray⟩,
    .val fun _ => .string ⟨(S1 ++ Sough.putText m.offer).toArray⟩,
    .val fun _ => .pointer (some ⟨w.heap.size, 4, none⟩),
    .val fun _ => .int .i64 (m.v 4),
    .val fun _ => .pointer (some ⟨w.heap.size, 6, none⟩),
    .val fun _ => .int .i64 (m.v 6),
    .val fun _ => .pointer (some ⟨w.heap.size, 7, none⟩),
    .val fun _ => .int .i64 (m.v 7),
    .val fun _ => .pointer (some ⟨w.heap.size, 8, none⟩),
    .val fun _ => .int .i64 (m.v 8),
    .val fun _ => .pointer (some ⟨w.heap.size, 9, none⟩),
    .val fun _ => .int .i64 (m.v 9),
    .val fun _ => .pointer (some ⟨w.heap.size, 10, none⟩),
    .val fun _ => .int .i64 (m.v 10),
    .blk (fun g => .slice (some ⟨g, 0, none⟩) 6 6) 3 (fun _ => #[.int .i64 (m.v 4), .int .i64 (m.v 6), .int .i64 (m.v 7), .int .i64 (m.v 8), .int .i64 (m.v 9), .int .i64 (m.v 10)]) 21 (fun _ => #[]),
    .val fun _ => .string ⟨(Sough.numsL [m.v 4, m.v 6, m.v 7, m.v 8, m.v 9, m.v 10]).toArray⟩,
    .val fun _ => .string ⟨(S1 ++ Sough.putText m.offer ++ Sough.numsL [m.v 4, m.v 6, m.v 7, m.v 8, m.v 9, m.v 10]).toArray⟩,
    .val fun _ => .string ⟨(S1 ++ Sough.putText m.offer ++ Sough.numsL [m.v 4, m.v 6, m.v 7, m.v 8, m.v 9, m.v 10]).toArray⟩] (fun _ => True) (fun _ _ _ _ => True) (by kernel_rfl) (by kernel_rfl) rfl rfl (by simp) trivial (fun _ _ _ _ => trivial) (fun _ _ _ _ _ _ _ => trivial) ?_ ?_
  · refine ⟨?_, ?_, ?_, ?_, ?_, ?_, ?_, ?_, ?_, ?_, ?_, ?_, ?_, ?_, ?_, ?_, ?_, ?_, ?_, ?_, ?_, trivial⟩
    · refine ⟨fun _ _ _ => rfl, ?_⟩
      intro v x hx hk
      refine .inl ⟨wanted_none rfl, ?_⟩
      simp only [putAll, Act.put, List.setIfInBounds_toArray, List.set_cons_succ, List.set_cons_zero]
      refine val_of_quiet (ops := #[]) rfl ?_
      go_big_quiet_step (fail)
      exact wpQuiet_nil (by first | rfl | simp [bytes_append, List.append_assoc])
    · refine ⟨fun _ _ _ => rfl, ?_⟩
      intro v x hx hk
      refine .inl ⟨wanted_none rfl, ?_⟩
      simp only [putAll, Act.put, List.setIfInBounds_toArray, List.set_cons_succ, List.set_cons_zero]
      refine val_of_quiet (ops := #[]) rfl ?_
      go_big_quiet_step (fail)
      exact wpQuiet_nil (by first | rfl | simp [bytes_append, List.append_assoc])
    · refine ⟨fun _ _ _ => rfl, ?_⟩
      intro v x hx hk
      have e1 : v 1 = .pointer (some ⟨w.heap.size, 3, none⟩) := hk 1 (by decide)
      have y0 := turned_cells hx cell_3 (by simp)
      refine .inl ⟨wanted_none rfl, ?_⟩
      simp only [putAll, Act.put, List.setIfInBounds_toArray, List.set_cons_succ, List.set_cons_zero, e1]
      refine val_of_quiet (ops := #[]) rfl ?_
      go_big_quiet_step (fail)
      exact wpQuiet_nil (by first | rfl | simp [bytes_append, List.append_assoc])
    · refine ⟨fun _ _ _ => rfl, ?_⟩
      intro v x hx hk
      have e2 : v 2 = .string ⟨m.offer.toArray⟩ := hk 2 (by decide)
      refine .inl ⟨wanted_none rfl, ?_⟩
      simp only [putAll, Act.put, List.setIfInBounds_toArray, List.set_cons_succ, List.set_cons_zero, e2]
      refine val_of_quiet (ops := #[]) rfl ?_
      go_big_quiet_step ((go_at_call 37; exact Calls.later (CT.out _)))
      exact wpQuiet_nil (by first | rfl | simp [bytes_append, List.append_assoc])
    · refine ⟨fun _ _ _ => rfl, ?_⟩
      intro v x hx hk
      have e0 : v 0 = .string ⟨S1.toArray⟩ := hk 0 (by decide)
      have e3 : v 3 = .string ⟨(Sough.putText m.offer).toArray⟩ := hk 3 (by decide)
      refine .inl ⟨wanted_none rfl, ?_⟩
      simp only [putAll, Act.put, List.setIfInBounds_toArray, List.set_cons_succ, List.set_cons_zero, e0, e3]
      refine val_of_quiet (ops := #[]) rfl ?_
      go_big_quiet_step (fail)
      exact wpQuiet_nil (by first | rfl | simp [bytes_append, List.append_assoc])
    · refine ⟨fun _ _ _ => rfl, ?_⟩
      intro v x hx hk
      refine .inl ⟨wanted_none rfl, ?_⟩
      simp only [putAll, Act.put, List.setIfInBounds_toArray, List.set_cons_succ, List.set_cons_zero]
      refine val_of_quiet (ops := #[]) rfl ?_
      go_big_quiet_step (fail)
      exact wpQuiet_nil (by first | rfl | simp [bytes_append, List.append_assoc])
    · refine ⟨fun _ _ _ => rfl, ?_⟩
      intro v x hx hk
      have e5 : v 5 = .pointer (some ⟨w.heap.size, 4, none⟩) := hk 5 (by decide)
      have y0 := turned_cells hx cell_4 (by simp)
      refine .inl ⟨wanted_none rfl, ?_⟩
      simp only [putAll, Act.put, List.setIfInBounds_toArray, List.set_cons_succ, List.set_cons_zero, e5]
      refine val_of_quiet (ops := #[]) rfl ?_
      go_big_quiet_step (fail)
      exact wpQuiet_nil (by first | rfl | simp [bytes_append, List.append_assoc])
    · refine ⟨fun _ _ _ => rfl, ?_⟩
      intro v x hx hk
      refine .inl ⟨wanted_none rfl, ?_⟩
      simp only [putAll, Act.put, List.setIfInBounds_toArray, List.set_cons_succ, List.set_cons_zero]
      refine val_of_quiet (ops := #[]) rfl ?_
      go_big_quiet_step (fail)
      exact wpQuiet_nil (by first | rfl | simp [bytes_append, List.append_assoc])
    · refine ⟨fun _ _ _ => rfl, ?_⟩
      intro v x hx hk
      have e7 : v 7 = .pointer (some ⟨w.heap.size, 6, none⟩) := hk 7 (by decide)
      have y0 := turned_cells hx cell_6 (by simp)
      refine .inl ⟨wanted_none rfl, ?_⟩
      simp only [putAll, Act.put, List.setIfInBounds_toArray, List.set_cons_succ, List.set_cons_zero, e7]
      refine val_of_quiet (ops := #[]) rfl ?_
      go_big_quiet_step (fail)
      exact wpQuiet_nil (by first | rfl | simp [bytes_append, List.append_assoc])
    · refine ⟨fun _ _ _ => rfl, ?_⟩
      intro v x hx hk
      refine .inl ⟨wanted_none rfl, ?_⟩
      simp only [putAll, Act.put, List.setIfInBounds_toArray, List.set_cons_succ, List.set_cons_zero]
      refine val_of_quiet (ops := #[]) rfl ?_
      go_big_quiet_step (fail)
      exact wpQuiet_nil (by first | rfl | simp [bytes_append, List.append_assoc])
    · refine ⟨fun _ _ _ => rfl, ?_⟩
      intro v x hx hk
      have e9 : v 9 = .pointer (some ⟨w.heap.size, 7, none⟩) := hk 9 (by decide)
      have y0 := turned_cells hx cell_7 (by simp)
      refine .inl ⟨wanted_none rfl, ?_⟩
      simp only [putAll, Act.put, List.setIfInBounds_toArray, List.set_cons_succ, List.set_cons_zero, e9]
      refine val_of_quiet (ops := #[]) rfl ?_
      go_big_quiet_step (fail)
      exact wpQuiet_nil (by first | rfl | simp [bytes_append, List.append_assoc])
    · refine ⟨fun _ _ _ => rfl, ?_⟩
      intro v x hx hk
      refine .inl ⟨wanted_none rfl, ?_⟩
      simp only [putAll, Act.put, List.setIfInBounds_toArray, List.set_cons_succ, List.set_cons_zero]
      refine val_of_quiet (ops := #[]) rfl ?_
      go_big_quiet_step (fail)
      exact wpQuiet_nil (by first | rfl | simp [bytes_append, List.append_assoc])
    · refine ⟨fun _ _ _ => rfl, ?_⟩
      intro v x hx hk
      have e11 : v 11 = .pointer (some ⟨w.heap.size, 8, none⟩) := hk 11 (by decide)
      have y0 := turned_cells hx cell_8 (by simp)
      refine .inl ⟨wanted_none rfl, ?_⟩
      simp only [putAll, Act.put, List.setIfInBounds_toArray, List.set_cons_succ, List.set_cons_zero, e11]
      refine val_of_quiet (ops := #[]) rfl ?_
      go_big_quiet_step (fail)
      exact wpQuiet_nil (by first | rfl | simp [bytes_append, List.append_assoc])
    · refine ⟨fun _ _ _ => rfl, ?_⟩
      intro v x hx hk
      refine .inl ⟨wanted_none rfl, ?_⟩
      simp only [putAll, Act.put, List.setIfInBounds_toArray, List.set_cons_succ, List.set_cons_zero]
      refine val_of_quiet (ops := #[]) rfl ?_
      go_big_quiet_step (fail)
      exact wpQuiet_nil (by first | rfl | simp [bytes_append, List.append_assoc])
    · refine ⟨fun _ _ _ => rfl, ?_⟩
      intro v x hx hk
      have e13 : v 13 = .pointer (some ⟨w.heap.size, 9, none⟩) := hk 13 (by decide)
      have y0 := turned_cells hx cell_9 (by simp)
      refine .inl ⟨wanted_none rfl, ?_⟩
      simp only [putAll, Act.put, List.setIfInBounds_toArray, List.set_cons_succ, List.set_cons_zero, e13]
      refine val_of_quiet (ops := #[]) rfl ?_
      go_big_quiet_step (fail)
      exact wpQuiet_nil (by first | rfl | simp [bytes_append, List.append_assoc])
    · refine ⟨fun _ _ _ => rfl, ?_⟩
      intro v x hx hk
      refine .inl ⟨wanted_none rfl, ?_⟩
      simp only [putAll, Act.put, List.setIfInBounds_toArray, List.set_cons_succ, List.set_cons_zero]
      refine val_of_quiet (ops := #[]) rfl ?_
      go_big_quiet_step (fail)
      exact wpQuiet_nil (by first | rfl | simp [bytes_append, List.append_assoc])
    · refine ⟨fun _ _ _ => rfl, ?_⟩
      intro v x hx hk
      have e15 : v 15 = .pointer (some ⟨w.heap.size, 10, none⟩) := hk 15 (by decide)
      have y0 := turned_cells hx cell_10 (by simp)
      refine .inl ⟨wanted_none rfl, ?_⟩
      simp only [putAll, Act.put, List.setIfInBounds_toArray, List.set_cons_succ, List.set_cons_zero, e15]
      refine val_of_quiet (ops := #[]) rfl ?_
      go_big_quiet_step (fail)
      exact wpQuiet_nil (by first | rfl | simp [bytes_append, List.append_assoc])
    · refine ⟨fun h => absurd h (by decide), fun _ _ _ => rfl, ?_⟩
      intro v x hx hk
      have e6 : v 6 = .int .i64 (m.v 4) := hk 6 (by decide)
      have e8 : v 8 = .int .i64 (m.v 6) := hk 8 (by decide)
      have e10 : v 10 = .int .i64 (m.v 7) := hk 10 (by decide)
      have e12 : v 12 = .int .i64 (m.v 8) := hk 12 (by decide)
      have e14 : v 14 = .int .i64 (m.v 9) := hk 14 (by decide)
      have e16 : v 16 = .int .i64 (m.v 10) := hk 16 (by decide)
      refine ⟨wanted_none rfl, ?_⟩
      simp only [putAll, Act.put, List.setIfInBounds_toArray, List.set_cons_succ, List.set_cons_zero, e6, e8, e10, e12, e14, e16]
      unfold Oper.wp
      go_simp
    · refine ⟨fun _ _ _ => rfl, ?_⟩
      intro v x hx hk
      obtain ⟨g, e17, hg1, _, hg2⟩ := hk 17 (by decide)
      have zl := fun z : Later x => (z.below.block g (lt_of_block (hg2 (by simp)))).trans (hg2 (by simp))
      refine .inl ⟨wanted_none rfl, ?_⟩
      simp only [putAll, Act.put, List.setIfInBounds_toArray, List.set_cons_succ, List.set_cons_zero, e17]
      refine val_of_quiet (ops := #[]) rfl ?_
      go_big_quiet_step ((go_at_call 35; exact Calls.later (nums_at (l := [m.v 4, m.v 6, m.v 7, m.v 8, m.v 9, m.v 10]) rfl (by simp) HN.out rfl _ (zl _))))
      exact wpQuiet_nil (by first | rfl | simp [bytes_append, List.append_assoc])
    · refine ⟨fun _ _ _ => rfl, ?_⟩
      intro v x hx hk
      have e4 : v 4 = .string ⟨(S1 ++ Sough.putText m.offer).toArray⟩ := hk 4 (by decide)
      have e18 : v 18 = .string ⟨(Sough.numsL [m.v 4, m.v 6, m.v 7, m.v 8, m.v 9, m.v 10]).toArray⟩ := hk 18 (by decide)
      refine .inl ⟨wanted_none rfl, ?_⟩
      simp only [putAll, Act.put, List.setIfInBounds_toArray, List.set_cons_succ, List.set_cons_zero, e4, e18]
      refine val_of_quiet (ops := #[]) rfl ?_
      go_big_quiet_step (fail)
      exact wpQuiet_nil (by first | rfl | simp [bytes_append, List.append_assoc])
    · refine ⟨fun _ _ _ => rfl, ?_⟩
      intro v x hx hk
      have e19 : v 19 = .string ⟨(S1 ++ Sough.putText m.offer ++ Sough.numsL [m.v 4, m.v 6, m.v 7, m.v 8, m.v 9, m.v 10]).toArray⟩ := hk 19 (by decide)
      refine .inl ⟨wanted_none rfl, ?_⟩
      simp only [putAll, Act.put, List.setIfInBounds_toArray, List.set_cons_succ, List.set_cons_zero, e19]
      refine val_of_quiet (ops := #[]) rfl ?_
      go_big_quiet_step (fail)
      exact wpQuiet_nil (by first | rfl | simp [bytes_append, List.append_assoc])
  · intro v G x hF
    have q := hF.vals 20 _ rfl rfl
    simp only [putAll, Act.put, List.setIfInBounds_toArray, List.set_cons_succ, List.set_cons_zero, q]
    have HX := Lib.hid (M3.out.bel.trans (hF.tur.toBelow (by simp) M3.out.bel.size))
    clear hF q
    go_wp2_with fail
    go_ret
    exact ⟨by rw [HS1.out]; simp [List.append_assoc], HX.out⟩

end Go.Proofs.Ytjoanlhdocoddaa
