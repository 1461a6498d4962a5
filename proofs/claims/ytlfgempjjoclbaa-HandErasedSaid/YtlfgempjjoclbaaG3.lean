/- Texts YtlfgempjjoclbaaHdTk .. YtlfgempjjoclbaaHdPub, joined. What they prove: the contracts of the functions that the law reaches, and plain law. -/
import Derived.Test.YtlfgempjjoclbaaG2
import Derived.Defers
import Derived.Recover
import Derived.Laws.Pointers
namespace Go.Proofs.Ytlfgempjjoclbaa
open Go.RowKit Go.Maps Go.ChangeMaps
section
variable {S : List Nat} {w0 W : World} {p : Nat} {st : Sough.Store} {L : List (Nat × Obj)}
theorem SF.sseal {y z : Sough.Sym} {x x' : Int} {er : Nat} {st' : Sough.Store} (h : SF S w0 W p st L) (hy : y.Wf) (hx : Sough.Int64 x) (hf : Sough.symSeal st y x = (st', z, x', er)) : Calls Try.prog 60 #[.agg #[.int .i64 y.ck, .int .i64 y.k, .int .i64 y.h, .int .u64 y.n], .pointer (some ⟨p, 0, none⟩), .int .i64 x] W fun e w' => e = .returned (.tuple #[.agg #[.int .i64 z.ck, .int .i64 z.k, .int .i64 z.h, .int .u64 z.n], .int .i64 x', .int .i64 er]) ∧ SF S w0 w' p st' L :=
  h.call (by have := Sough.symSeal_ok h.ok hy hx; rw [hf] at this; exact this) fun S1 hs => seal_any W hs h.ok hy hx hf
theorem SF.sopen {y z : Sough.Sym} {x x' : Int} {er : Nat} {st' : Sough.Store} (h : SF S w0 W p st L) (hy : y.Wf) (hx : Sough.Int64 x) (hf : Sough.symOpen st y x = (st', z, x', er)) : Calls Try.prog 67 #[.agg #[.int .i64 y.ck, .int .i64 y.k, .int .i64 y.h, .int .u64 y.n], .pointer (some ⟨p, 0, none⟩), .int .i64 x] W fun e w' => e = .returned (.tuple #[.agg #[.int .i64 z.ck, .int .i64 z.k, .int .i64 z.h, .int .u64 z.n], .int .i64 x', .int .i64 er]) ∧ SF S w0 w' p st' L :=
  h.call (by have := Sough.symOpen_ok h.ok hy hx; rw [hf] at this; exact this) fun S1 hs => sopen_any W hs h.ok hy hx hf
theorem SF.ssplit {y : Sough.Sym} {a b er : Nat} {st' : Sough.Store} (h : SF S w0 W p st L) (hy : y.Wf) (hf : Sough.symSplit st y = (st', a, b, er)) : Calls Try.prog 69 #[.agg #[.int .i64 y.ck, .int .i64 y.k, .int .i64 y.h, .int .u64 y.n], .pointer (some ⟨p, 0, none⟩)] W fun e w' => e = .returned (.tuple #[.int .i64 a, .int .i64 b, .int .i64 er]) ∧ SF S w0 w' p st' L :=
  h.call (by have := Sough.symSplit_ok (y := y) h.ok hy; rw [hf] at this; exact this) fun S1 hs => ssplit_any W hs h.ok hy hf
end
set_option maxRecDepth 100000 in
set_option maxHeartbeats 1600000 in
theorem thash_ok {S : List Nat} {w0 W : World} {p t : Nat} {st st' : Sough.Store} {y z : Sough.Sym} {x : Int} {L0 : List (Nat × Obj)} (h : SF S w0 W p st ((t, talkC p y) :: L0)) (hy : y.Wf) (hx : Sough.Int64 x) (hf : Sough.symHash st y x = (st', z, 0)) : Calls Try.prog 30 #[.pointer (some ⟨t, 0, none⟩), .int .i64 x] W fun e w' => e = .returned (.tuple #[]) ∧ SF S w0 w' p st' ((t, talkC p z) :: L0) := by
  have F0 := Lib.hid h
  have HF := Lib.hid hf
  have HY := Lib.hid hy; have HX := Lib.hid hx
  clear hy hx
  clear h hf
  go_enter Try.func30, Try.ntmps30
  go_wp2_with fail
  refine wp_vals (n := 25) (fun k => match k with
    | 0 => some (.pointer (some ⟨t, 0, none⟩))
    | 1 => some (.pointer (some ⟨t, 0, none⟩))
    | 2 => some (.pointer (some ⟨t, 1, none⟩))
    | 3 => some (.agg #[.int .i64 y.ck, .int .i64 y.k, .int .i64 y.h, .int .u64 y.n])
    | 4 => some (.pointer (some ⟨t, 0, none⟩))
    | 5 => some (.pointer (some ⟨t, 0, none⟩))
    | 6 => some (.pointer (some ⟨t, 0, none⟩))
    | 7 => some (.pointer (some ⟨p, 0, none⟩))
    | 8 => some (.int .i64 x)
    | 10 => some (.tuple #[.agg #[.int .i64 z.ck, .int .i64 z.k, .int .i64 z.h, .int .u64 z.n], .int .i64 0])
    | 11 => some (.agg #[.int .i64 z.ck, .int .i64 z.k, .int .i64 z.h, .int .u64 z.n])
    | 12 => some (.int .i64 0)
    | 15 => some (.int .i64 0)
    | _ => none) (fun L v x => TalkM S w0 p st st' ((t, talkC p y) :: L0) 36 #[.int .i64 0, .int .i64 0, .int .i64 0, .int .u64 0] #[.int .i64 z.ck, .int .i64 z.k, .int .i64 z.h, .int .u64 z.n] (L 9) (L 13) (L 14) (v 13) x ∧ (L 9 = true → v 9 = .tuple #[.agg #[.int .i64 z.ck, .int .i64 z.k, .int .i64 z.h, .int .u64 z.n], .int .i64 0])) (by kernel_rfl) (by kernel_rfl) ?_ ?_ ?_ ?_
  · intro L v hL
    rw [hL 9 (by simp), hL 13 (by simp), hL 14 (by simp)]
    exact ⟨TalkM.start F0.out, fun h => absurd h (by simp)⟩
  · intro L L' v v' x hk hM
    have hM1 := hM.1
    have hM2 := hM.2
    have ec := hk 9 (by simp) rfl
    have ea := hk 13 (by simp) rfl
    rw [ec.1, ea.1, (hk 14 (by simp) rfl).1] at hM1
    exact ⟨hM1.congr (fun h => ea.2 (ea.1.trans h)), fun h => (ec.2 (ec.1.trans h)).symm.trans (hM2 (ec.1.trans h))⟩
  · refine ⟨?_, ?_, ?_, ?_, ?_, ?_, ?_, ?_, ?_, ?_, ?_, ?_, ?_, ?_, ?_, ?_, trivial⟩
    · intro L v xw hLk hW hF hbk hM
      have hM1 := hM.1
      have hM2 := hM.2
      refine ⟨wanted_none rfl, ?_⟩
      simp only [putAll, Act.put, List.setIfInBounds_toArray, List.set_cons_succ, List.set_cons_zero]
      refine vstep_pure rfl (fun q hb => ⟨rfl, hM1.later hb, by first | exact hM2 | exact fun _ => trivial⟩) ?_
      go_big_quiet_step (fail)
      exact wpQuiet_nil rfl
    · intro L v xw hLk hW hF hbk hM
      have hM1 := hM.1
      have hM2 := hM.2
      have e0 : v 0 = .pointer (some ⟨t, 0, none⟩) := hF 0 _ (by decide) rfl
      refine ⟨wanted_none rfl, ?_⟩
      simp only [putAll, Act.put, List.setIfInBounds_toArray, List.set_cons_succ, List.set_cons_zero, e0]
      refine vstep_pure rfl (fun q hb => ⟨rfl, hM1.later hb, by first | exact hM2 | exact fun _ => trivial⟩) ?_
      go_big_quiet_step (fail)
      exact wpQuiet_nil rfl
    · intro L v xw hLk hW hF hbk hM
      have hM1 := hM.1
      have hM2 := hM.2
      have e1 : v 1 = .pointer (some ⟨t, 0, none⟩) := hF 1 _ (by decide) rfl
      refine ⟨wanted_none rfl, ?_⟩
      simp only [putAll, Act.put, List.setIfInBounds_toArray, List.set_cons_succ, List.set_cons_zero, e1]
      refine vstep_pure rfl (fun q hb => ⟨rfl, hM1.later hb, by first | exact hM2 | exact fun _ => trivial⟩) ?_
      go_big_quiet_step (fail)
      exact wpQuiet_nil rfl
    · intro L v xw hLk hW hF hbk hM
      have hM1 := hM.1
      have hM2 := hM.2
      have e2 : v 2 = .pointer (some ⟨t, 1, none⟩) := hF 2 _ (by decide) rfl
      have yy := talk_cells (hM1.blk (k := t) (o := talkC p y) (by simp))
      refine ⟨wanted_none rfl, ?_⟩
      simp only [putAll, Act.put, List.setIfInBounds_toArray, List.set_cons_succ, List.set_cons_zero, e2]
      refine vstep_pure rfl (fun q hb => ⟨rfl, hM1.later hb, by first | exact hM2 | exact fun _ => trivial⟩) ?_
      go_big_quiet_step (fail)
      exact wpQuiet_nil rfl
    · intro L v xw hLk hW hF hbk hM
      have hM1 := hM.1
      have hM2 := hM.2
      refine ⟨wanted_none rfl, ?_⟩
      simp only [putAll, Act.put, List.setIfInBounds_toArray, List.set_cons_succ, List.set_cons_zero]
      refine vstep_pure rfl (fun q hb => ⟨rfl, hM1.later hb, by first | exact hM2 | exact fun _ => trivial⟩) ?_
      go_big_quiet_step (fail)
      exact wpQuiet_nil rfl
    · intro L v xw hLk hW hF hbk hM
      have hM1 := hM.1
      have hM2 := hM.2
      have e4 : v 4 = .pointer (some ⟨t, 0, none⟩) := hF 4 _ (by decide) rfl
      refine ⟨wanted_none rfl, ?_⟩
      simp only [putAll, Act.put, List.setIfInBounds_toArray, List.set_cons_succ, List.set_cons_zero, e4]
      refine vstep_pure rfl (fun q hb => ⟨rfl, hM1.later hb, by first | exact hM2 | exact fun _ => trivial⟩) ?_
      go_big_quiet_step (fail)
      exact wpQuiet_nil rfl
    · intro L v xw hLk hW hF hbk hM
      have hM1 := hM.1
      have hM2 := hM.2
      have e5 : v 5 = .pointer (some ⟨t, 0, none⟩) := hF 5 _ (by decide) rfl
      refine ⟨wanted_none rfl, ?_⟩
      simp only [putAll, Act.put, List.setIfInBounds_toArray, List.set_cons_succ, List.set_cons_zero, e5]
      refine vstep_pure rfl (fun q hb => ⟨rfl, hM1.later hb, by first | exact hM2 | exact fun _ => trivial⟩) ?_
      go_big_quiet_step (fail)
      exact wpQuiet_nil rfl
    · intro L v xw hLk hW hF hbk hM
      have hM1 := hM.1
      have hM2 := hM.2
      have e6 : v 6 = .pointer (some ⟨t, 0, none⟩) := hF 6 _ (by decide) rfl
      have yy := talk_cells (hM1.blk (k := t) (o := talkC p y) (by simp))
      refine ⟨wanted_none rfl, ?_⟩
      simp only [putAll, Act.put, List.setIfInBounds_toArray, List.set_cons_succ, List.set_cons_zero, e6]
      refine vstep_pure rfl (fun q hb => ⟨rfl, hM1.later hb, by first | exact hM2 | exact fun _ => trivial⟩) ?_
      go_big_quiet_step (fail)
      exact wpQuiet_nil rfl
    · intro L v xw hLk hW hF hbk hM
      have hM1 := hM.1
      have hM2 := hM.2
      refine ⟨wanted_none rfl, ?_⟩
      simp only [putAll, Act.put, List.setIfInBounds_toArray, List.set_cons_succ, List.set_cons_zero]
      refine vstep_pure rfl (fun q hb => ⟨rfl, hM1.later hb, by first | exact hM2 | exact fun _ => trivial⟩) ?_
      go_big_quiet_step (fail)
      exact wpQuiet_nil rfl
    · intro L v xw hLk hW hF hbk hM
      have hM1 := hM.1
      have hM2 := hM.2
      have e3 : v 3 = .agg #[.int .i64 y.ck, .int .i64 y.k, .int .i64 y.h, .int .u64 y.n] := hF 3 _ (by decide) rfl
      have e7 : v 7 = .pointer (some ⟨p, 0, none⟩) := hF 7 _ (by decide) rfl
      have e8 : v 8 = .int .i64 x := hF 8 _ (by decide) rfl
      rw [hLk] at hM1
      obtain ⟨L', hs, hnx⟩ := hM1.sf
      have CC := Lib.hid (hs.shash HY.out HX.out HF.out)
      refine ⟨wanted_none rfl, ?_⟩
      simp only [putAll, Act.put, List.setIfInBounds_toArray, List.set_cons_succ, List.set_cons_zero, e3, e7, e8]
      refine vstep_call (fun q => SF S w0 q p st' L') (fun q hq => ⟨.tuple #[.agg #[.int .i64 z.ck, .int .i64 z.k, .int .i64 z.h, .int .u64 z.n], .int .i64 0], rfl, by simp only [Nat.zero_add, Nat.reduceAdd, Nat.reduceBEq, beq_self_eq_true, Bool.or_true, Bool.or_false, Nat.reduceEqDiff, if_true, if_false, reduceIte]; exact ⟨hnx q hq, fun _ => trivial⟩⟩) ?_
      unfold Oper.wp
      go_simp
      refine CC.out.mono ?_
      rintro e q ⟨rfl, hq⟩
      exact ⟨rfl, hq⟩
    · intro L v xw hLk hW hF hbk hM
      have hM1 := hM.1
      have hM2 := hM.2
      have e9 := hM2 (hW 9 (by decide))
      refine ⟨wanted_none rfl, ?_⟩
      simp only [putAll, Act.put, List.setIfInBounds_toArray, List.set_cons_succ, List.set_cons_zero, e9]
      refine vstep_pure rfl (fun q hb => ⟨rfl, hM1.later hb, by first | exact hM2 | exact fun _ => trivial⟩) ?_
      go_big_quiet_step (fail)
      exact wpQuiet_nil rfl
    · intro L v xw hLk hW hF hbk hM
      have hM1 := hM.1
      have hM2 := hM.2
      have e10 : v 10 = .tuple #[.agg #[.int .i64 z.ck, .int .i64 z.k, .int .i64 z.h, .int .u64 z.n], .int .i64 0] := hF 10 _ (by decide) rfl
      refine ⟨wanted_none rfl, ?_⟩
      simp only [putAll, Act.put, List.setIfInBounds_toArray, List.set_cons_succ, List.set_cons_zero, e10]
      refine vstep_pure rfl (fun q hb => ⟨rfl, hM1.later hb, by first | exact hM2 | exact fun _ => trivial⟩) ?_
      go_big_quiet_step (fail)
      exact wpQuiet_nil rfl
    · intro L v xw hLk hW hF hbk hM
      have hM1 := hM.1
      have hM2 := hM.2
      have e10 : v 10 = .tuple #[.agg #[.int .i64 z.ck, .int .i64 z.k, .int .i64 z.h, .int .u64 z.n], .int .i64 0] := hF 10 _ (by decide) rfl
      refine ⟨wanted_none rfl, ?_⟩
      simp only [putAll, Act.put, List.setIfInBounds_toArray, List.set_cons_succ, List.set_cons_zero, e10]
      refine vstep_pure rfl (fun q hb => ⟨rfl, hM1.later hb, by first | exact hM2 | exact fun _ => trivial⟩) ?_
      go_big_quiet_step (fail)
      exact wpQuiet_nil rfl
    · intro L v xw hLk hW hF hbk hM
      have hM1 := hM.1
      have hM2 := hM.2
      have hs : L 14 = false := by
        cases hc : L 14 with
        | false => rfl
        | true =>
          have h8 := hbk 14 13 _ rfl (by decide) hc
          rw [hLk] at h8
          cases h8
      rw [hLk, hs] at hM1
      refine ⟨wanted_none rfl, ?_⟩
      simp only [putAll, Act.put, List.setIfInBounds_toArray, List.set_cons_succ, List.set_cons_zero]
      refine vstep_one (W := xw.alloc (.cells #[.int .i64 0, .int .i64 0, .int .i64 0, .int .u64 0] 36)) ⟨.pointer (some ⟨xw.heap.size, 0, none⟩), rfl, by simp only [Nat.zero_add, Nat.reduceAdd, Nat.reduceBEq, beq_self_eq_true, Bool.or_true, Bool.or_false, Nat.reduceEqDiff, if_true, if_false, reduceIte]; rw [hs]; exact ⟨hM1.alloc, hM2⟩⟩ ?_
      unfold Oper.wp
      go_simp
    · intro L v xw hLk hW hF hbk hM
      have hM1 := hM.1
      have hM2 := hM.2
      have e11 : v 11 = .agg #[.int .i64 z.ck, .int .i64 z.k, .int .i64 z.h, .int .u64 z.n] := hF 11 _ (by decide) rfl
      have ha := hW 13 (by decide)
      rw [hLk, ha] at hM1
      obtain ⟨G, hv, hg⟩ := hM1.ptr
      have HM := Lib.hid hM1
      have c0 : xw.cell? ⟨G, 0, none⟩ = some (.int .i64 0) ∧ xw.cell? ⟨G, 1, none⟩ = some (.int .i64 0) ∧ xw.cell? ⟨G, 2, none⟩ = some (.int .i64 0) ∧ xw.cell? ⟨G, 3, none⟩ = some (.int .u64 0) ∧ xw.frozen? ⟨G, 0, none⟩ = false ∧ xw.frozen? ⟨G, 1, none⟩ = false ∧ xw.frozen? ⟨G, 2, none⟩ = false ∧ xw.frozen? ⟨G, 3, none⟩ = false := by simp [World.cell?, World.frozen?, hg]
      clear hM1 hg
      refine ⟨wanted_none rfl, ?_⟩
      simp only [putAll, Act.put, List.setIfInBounds_toArray, List.set_cons_succ, List.set_cons_zero, e11, hv]
      refine vstep_one (W := (((xw.setCell ⟨G, 0, none⟩ (.int .i64 z.ck)).setCell ⟨G, 1, none⟩ (.int .i64 z.k)).setCell ⟨G, 2, none⟩ (.int .i64 z.h)).setCell ⟨G, 3, none⟩ (.int .u64 z.n)) ⟨undef, rfl, by simp only [Nat.zero_add, Nat.reduceAdd, Nat.reduceBEq, beq_self_eq_true, Bool.or_true, Bool.or_false, Nat.reduceEqDiff, if_true, if_false, reduceIte]; rw [ha]; have := HM.out.sto hv; rw [hv] at this; exact ⟨this, hM2⟩⟩ ?_
      unfold Oper.wp
      go_simp
    · intro L v xw hLk hW hF hbk hM
      have hM1 := hM.1
      have hM2 := hM.2
      have e12 : v 12 = .int .i64 0 := hF 12 _ (by decide) rfl
      refine ⟨wanted_none rfl, ?_⟩
      simp only [putAll, Act.put, List.setIfInBounds_toArray, List.set_cons_succ, List.set_cons_zero, e12]
      refine vstep_pure rfl (fun q hb => ⟨rfl, hM1.later hb, by first | exact hM2 | exact fun _ => trivial⟩) ?_
      go_big_quiet_step (fail)
      exact wpQuiet_nil rfl
  · intro L v x1 hL hF hM
    have hM1 := hM.1
    rw [hL 9 (by simp), hL 13 (by simp), hL 14 (by simp)] at hM1
    obtain ⟨G, hs, hv, _⟩ := hM1
    have hv := hv rfl
    have F1 : Hid (SF S w0 x1 p st' ((G, .cells #[.int .i64 z.ck, .int .i64 z.k, .int .i64 z.h, .int .u64 z.n] 36 (0, 0)) :: (t, talkC p y) :: L0)) := Lib.hid hs
    clear hs
    have f0 := hF 0 _ (by simp) rfl
    have f1 := hF 1 _ (by simp) rfl
    have f2 := hF 2 _ (by simp) rfl
    have f3 := hF 3 _ (by simp) rfl
    have f4 := hF 4 _ (by simp) rfl
    have f5 := hF 5 _ (by simp) rfl
    have f6 := hF 6 _ (by simp) rfl
    have f7 := hF 7 _ (by simp) rfl
    have f8 := hF 8 _ (by simp) rfl
    have f10 := hF 10 _ (by simp) rfl
    have f11 := hF 11 _ (by simp) rfl
    have f12 := hF 12 _ (by simp) rfl
    have f15 := hF 15 _ (by simp) rfl
    clear hF hM hL F0
    simp only [putAll, Act.put, List.setIfInBounds_toArray, List.set_cons_succ, List.set_cons_zero, hv, f0, f1, f2, f3, f4, f5, f6, f7, f8, f10, f11, f12, f15]
    clear f0 f1 f2 f3 f4 f5 f6 f7 f8 f10 f11 f12 f15 hv
    go_wp2_with fail
    refine (must_ok _).mono ?_
    rintro e w1 ⟨rfl, rfl⟩
    have hgc : x1.cell? ⟨G, 0, none⟩ = some (.int .i64 z.ck) ∧ x1.cell? ⟨G, 1, none⟩ = some (.int .i64 z.k) ∧ x1.cell? ⟨G, 2, none⟩ = some (.int .i64 z.h) ∧ x1.cell? ⟨G, 3, none⟩ = some (.int .u64 z.n) := by
      have := F1.out.get 0 rfl
      simp [World.cell?, this]
    obtain ⟨⟨q0, q1, q2, q3, q4⟩, z1, z2, z3, z4⟩ := talk_now (F1.out.get 1 rfl)
    have F2 : Hid (SF S w0 ((((x1.setCell ⟨t, 1, none⟩ (.int .i64 z.ck)).setCell ⟨t, 2, none⟩ (.int .i64 z.k)).setCell ⟨t, 3, none⟩ (.int .i64 z.h)).setCell ⟨t, 4, none⟩ (.int .u64 z.n)) p st' ((G, .cells #[.int .i64 z.ck, .int .i64 z.k, .int .i64 z.h, .int .u64 z.n] 36 (0, 0)) :: (t, talkC p z) :: L0)) :=
      Lib.hid ((((F1.out.set2 1 (.int .i64 z.ck)).set2 2 (.int .i64 z.k)).set2 3 (.int .i64 z.h)).set2 4 (.int .u64 z.n))
    go_wp2_with fail
    go_end0
    exact ⟨rfl, F2.out.sub (List.sublist_cons_self _ _)⟩
set_option maxRecDepth 100000 in
set_option maxHeartbeats 1600000 in
theorem thash_er {S : List Nat} {w0 W : World} {p t er : Nat} {st st' : Sough.Store} {y z : Sough.Sym} {x : Int} {L0 : List (Nat × Obj)} (h : SF S w0 W p st ((t, talkC p y) :: L0)) (hy : y.Wf) (hx : Sough.Int64 x) (hf : Sough.symHash st y x = (st', z, er)) (he : er ≠ 0) : Calls Try.prog 30 #[.pointer (some ⟨t, 0, none⟩), .int .i64 x] W fun e w' => e = .panicked (wrongP er) ∧ SF S w0 w' p st' ((t, talkC p y) :: L0) := by
  have F0 := Lib.hid h
  have HF := Lib.hid hf
  have HY := Lib.hid hy; have HX := Lib.hid hx
  clear hy hx
  have HE := Lib.hid he
  clear he
  clear h hf
  go_enter Try.func30, Try.ntmps30
  go_wp2_with fail
  refine wp_vals (n := 25) (fun k => match k with
    | 0 => some (.pointer (some ⟨t, 0, none⟩))
    | 1 => some (.pointer (some ⟨t, 0, none⟩))
    | 2 => some (.pointer (some ⟨t, 1, none⟩))
    | 3 => some (.agg #[.int .i64 y.ck, .int .i64 y.k, .int .i64 y.h, .int .u64 y.n])
    | 4 => some (.pointer (some ⟨t, 0, none⟩))
    | 5 => some (.pointer (some ⟨t, 0, none⟩))
    | 6 => some (.pointer (some ⟨t, 0, none⟩))
    | 7 => some (.pointer (some ⟨p, 0, none⟩))
    | 8 => some (.int .i64 x)
    | 10 => some (.tuple #[.agg #[.int .i64 z.ck, .int .i64 z.k, .int .i64 z.h, .int .u64 z.n], .int .i64 er])
    | 11 => some (.agg #[.int .i64 z.ck, .int .i64 z.k, .int .i64 z.h, .int .u64 z.n])
    | 12 => some (.int .i64 er)
    | 15 => some (.int .i64 er)
    | _ => none) (fun L v x => TalkM S w0 p st st' ((t, talkC p y) :: L0) 36 #[.int .i64 0, .int .i64 0, .int .i64 0, .int .u64 0] #[.int .i64 z.ck, .int .i64 z.k, .int .i64 z.h, .int .u64 z.n] (L 9) (L 13) (L 14) (v 13) x ∧ (L 9 = true → v 9 = .tuple #[.agg #[.int .i64 z.ck, .int .i64 z.k, .int .i64 z.h, .int .u64 z.n], .int .i64 er])) (by kernel_rfl) (by kernel_rfl) ?_ ?_ ?_ ?_
  · intro L v hL
    rw [hL 9 (by simp), hL 13 (by simp), hL 14 (by simp)]
    exact ⟨TalkM.start F0.out, fun h => absurd h (by simp)⟩
  · intro L L' v v' x hk hM
    have hM1 := hM.1
    have hM2 := hM.2
    have ec := hk 9 (by simp) rfl
    have ea := hk 13 (by simp) rfl
    rw [ec.1, ea.1, (hk 14 (by simp) rfl).1] at hM1
    exact ⟨hM1.congr (fun h => ea.2 (ea.1.trans h)), fun h => (ec.2 (ec.1.trans h)).symm.trans (hM2 (ec.1.trans h))⟩
  · refine ⟨?_, ?_, ?_, ?_, ?_, ?_, ?_, ?_, ?_, ?_, ?_, ?_, ?_, ?_, ?_, ?_, trivial⟩
    · intro L v xw hLk hW hF hbk hM
      have hM1 := hM.1
      have hM2 := hM.2
      refine ⟨wanted_none rfl, ?_⟩
      simp only [putAll, Act.put, List.setIfInBounds_toArray, List.set_cons_succ, List.set_cons_zero]
      refine vstep_pure rfl (fun q hb => ⟨rfl, hM1.later hb, by first | exact hM2 | exact fun _ => trivial⟩) ?_
      go_big_quiet_step (fail)
      exact wpQuiet_nil rfl
    · intro L v xw hLk hW hF hbk hM
      have hM1 := hM.1
      have hM2 := hM.2
      have e0 : v 0 = .pointer (some ⟨t, 0, none⟩) := hF 0 _ (by decide) rfl
      refine ⟨wanted_none rfl, ?_⟩
      simp only [putAll, Act.put, List.setIfInBounds_toArray, List.set_cons_succ, List.set_cons_zero, e0]
      refine vstep_pure rfl (fun q hb => ⟨rfl, hM1.later hb, by first | exact hM2 | exact fun _ => trivial⟩) ?_
      go_big_quiet_step (fail)
      exact wpQuiet_nil rfl
    · intro L v xw hLk hW hF hbk hM
      have hM1 := hM.1
      have hM2 := hM.2
      have e1 : v 1 = .pointer (some ⟨t, 0, none⟩) := hF 1 _ (by decide) rfl
      refine ⟨wanted_none rfl, ?_⟩
      simp only [putAll, Act.put, List.setIfInBounds_toArray, List.set_cons_succ, List.set_cons_zero, e1]
      refine vstep_pure rfl (fun q hb => ⟨rfl, hM1.later hb, by first | exact hM2 | exact fun _ => trivial⟩) ?_
      go_big_quiet_step (fail)
      exact wpQuiet_nil rfl
    · intro L v xw hLk hW hF hbk hM
      have hM1 := hM.1
      have hM2 := hM.2
      have e2 : v 2 = .pointer (some ⟨t, 1, none⟩) := hF 2 _ (by decide) rfl
      have yy := talk_cells (hM1.blk (k := t) (o := talkC p y) (by simp))
      refine ⟨wanted_none rfl, ?_⟩
      simp only [putAll, Act.put, List.setIfInBounds_toArray, List.set_cons_succ, List.set_cons_zero, e2]
      refine vstep_pure rfl (fun q hb => ⟨rfl, hM1.later hb, by first | exact hM2 | exact fun _ => trivial⟩) ?_
      go_big_quiet_step (fail)
      exact wpQuiet_nil rfl
    · intro L v xw hLk hW hF hbk hM
      have hM1 := hM.1
      have hM2 := hM.2
      refine ⟨wanted_none rfl, ?_⟩
      simp only [putAll, Act.put, List.setIfInBounds_toArray, List.set_cons_succ, List.set_cons_zero]
      refine vstep_pure rfl (fun q hb => ⟨rfl, hM1.later hb, by first | exact hM2 | exact fun _ => trivial⟩) ?_
      go_big_quiet_step (fail)
      exact wpQuiet_nil rfl
    · intro L v xw hLk hW hF hbk hM
      have hM1 := hM.1
      have hM2 := hM.2
      have e4 : v 4 = .pointer (some ⟨t, 0, none⟩) := hF 4 _ (by decide) rfl
      refine ⟨wanted_none rfl, ?_⟩
      simp only [putAll, Act.put, List.setIfInBounds_toArray, List.set_cons_succ, List.set_cons_zero, e4]
      refine vstep_pure rfl (fun q hb => ⟨rfl, hM1.later hb, by first | exact hM2 | exact fun _ => trivial⟩) ?_
      go_big_quiet_step (fail)
      exact wpQuiet_nil rfl
    · intro L v xw hLk hW hF hbk hM
      have hM1 := hM.1
      have hM2 := hM.2
      have e5 : v 5 = .pointer (some ⟨t, 0, none⟩) := hF 5 _ (by decide) rfl
      refine ⟨wanted_none rfl, ?_⟩
      simp only [putAll, Act.put, List.setIfInBounds_toArray, List.set_cons_succ, List.set_cons_zero, e5]
      refine vstep_pure rfl (fun q hb => ⟨rfl, hM1.later hb, by first | exact hM2 | exact fun _ => trivial⟩) ?_
      go_big_quiet_step (fail)
      exact wpQuiet_nil rfl
    · intro L v xw hLk hW hF hbk hM
      have hM1 := hM.1
      have hM2 := hM.2
      have e6 : v 6 = .pointer (some ⟨t, 0, none⟩) := hF 6 _ (by decide) rfl
      have yy := talk_cells (hM1.blk (k := t) (o := talkC p y) (by simp))
      refine ⟨wanted_none rfl, ?_⟩
      simp only [putAll, Act.put, List.setIfInBounds_toArray, List.set_cons_succ, List.set_cons_zero, e6]
      refine vstep_pure rfl (fun q hb => ⟨rfl, hM1.later hb, by first | exact hM2 | exact fun _ => trivial⟩) ?_
      go_big_quiet_step (fail)
      exact wpQuiet_nil rfl
    · intro L v xw hLk hW hF hbk hM
      have hM1 := hM.1
      have hM2 := hM.2
      refine ⟨wanted_none rfl, ?_⟩
      simp only [putAll, Act.put, List.setIfInBounds_toArray, List.set_cons_succ, List.set_cons_zero]
      refine vstep_pure rfl (fun q hb => ⟨rfl, hM1.later hb, by first | exact hM2 | exact fun _ => trivial⟩) ?_
      go_big_quiet_step (fail)
      exact wpQuiet_nil rfl
    · intro L v xw hLk hW hF hbk hM
      have hM1 := hM.1
      have hM2 := hM.2
      have e3 : v 3 = .agg #[.int .i64 y.ck, .int .i64 y.k, .int .i64 y.h, .int .u64 y.n] := hF 3 _ (by decide) rfl
      have e7 : v 7 = .pointer (some ⟨p, 0, none⟩) := hF 7 _ (by decide) rfl
      have e8 : v 8 = .int .i64 x := hF 8 _ (by decide) rfl
      rw [hLk] at hM1
      obtain ⟨L', hs, hnx⟩ := hM1.sf
      have CC := Lib.hid (hs.shash HY.out HX.out HF.out)
      refine ⟨wanted_none rfl, ?_⟩
      simp only [putAll, Act.put, List.setIfInBounds_toArray, List.set_cons_succ, List.set_cons_zero, e3, e7, e8]
      refine vstep_call (fun q => SF S w0 q p st' L') (fun q hq => ⟨.tuple #[.agg #[.int .i64 z.ck, .int .i64 z.k, .int .i64 z.h, .int .u64 z.n], .int .i64 er], rfl, by simp only [Nat.zero_add, Nat.reduceAdd, Nat.reduceBEq, beq_self_eq_true, Bool.or_true, Bool.or_false, Nat.reduceEqDiff, if_true, if_false, reduceIte]; exact ⟨hnx q hq, fun _ => trivial⟩⟩) ?_
      unfold Oper.wp
      go_simp
      refine CC.out.mono ?_
      rintro e q ⟨rfl, hq⟩
      exact ⟨rfl, hq⟩
    · intro L v xw hLk hW hF hbk hM
      have hM1 := hM.1
      have hM2 := hM.2
      have e9 := hM2 (hW 9 (by decide))
      refine ⟨wanted_none rfl, ?_⟩
      simp only [putAll, Act.put, List.setIfInBounds_toArray, List.set_cons_succ, List.set_cons_zero, e9]
      refine vstep_pure rfl (fun q hb => ⟨rfl, hM1.later hb, by first | exact hM2 | exact fun _ => trivial⟩) ?_
      go_big_quiet_step (fail)
      exact wpQuiet_nil rfl
    · intro L v xw hLk hW hF hbk hM
      have hM1 := hM.1
      have hM2 := hM.2
      have e10 : v 10 = .tuple #[.agg #[.int .i64 z.ck, .int .i64 z.k, .int .i64 z.h, .int .u64 z.n], .int .i64 er] := hF 10 _ (by decide) rfl
      refine ⟨wanted_none rfl, ?_⟩
      simp only [putAll, Act.put, List.setIfInBounds_toArray, List.set_cons_succ, List.set_cons_zero, e10]
      refine vstep_pure rfl (fun q hb => ⟨rfl, hM1.later hb, by first | exact hM2 | exact fun _ => trivial⟩) ?_
      go_big_quiet_step (fail)
      exact wpQuiet_nil rfl
    · intro L v xw hLk hW hF hbk hM
      have hM1 := hM.1
      have hM2 := hM.2
      have e10 : v 10 = .tuple #[.agg #[.int .i64 z.ck, .int .i64 z.k, .int .i64 z.h, .int .u64 z.n], .int .i64 er] := hF 10 _ (by decide) rfl
      refine ⟨wanted_none rfl, ?_⟩
      simp only [putAll, Act.put, List.setIfInBounds_toArray, List.set_cons_succ, List.set_cons_zero, e10]
      refine vstep_pure rfl (fun q hb => ⟨rfl, hM1.later hb, by first | exact hM2 | exact fun _ => trivial⟩) ?_
      go_big_quiet_step (fail)
      exact wpQuiet_nil rfl
    · intro L v xw hLk hW hF hbk hM
      have hM1 := hM.1
      have hM2 := hM.2
      have hs : L 14 = false := by
        cases hc : L 14 with
        | false => rfl
        | true =>
          have h8 := hbk 14 13 _ rfl (by decide) hc
          rw [hLk] at h8
          cases h8
      rw [hLk, hs] at hM1
      refine ⟨wanted_none rfl, ?_⟩
      simp only [putAll, Act.put, List.setIfInBounds_toArray, List.set_cons_succ, List.set_cons_zero]
      refine vstep_one (W := xw.alloc (.cells #[.int .i64 0, .int .i64 0, .int .i64 0, .int .u64 0] 36)) ⟨.pointer (some ⟨xw.heap.size, 0, none⟩), rfl, by simp only [Nat.zero_add, Nat.reduceAdd, Nat.reduceBEq, beq_self_eq_true, Bool.or_true, Bool.or_false, Nat.reduceEqDiff, if_true, if_false, reduceIte]; rw [hs]; exact ⟨hM1.alloc, hM2⟩⟩ ?_
      unfold Oper.wp
      go_simp
    · intro L v xw hLk hW hF hbk hM
      have hM1 := hM.1
      have hM2 := hM.2
      have e11 : v 11 = .agg #[.int .i64 z.ck, .int .i64 z.k, .int .i64 z.h, .int .u64 z.n] := hF 11 _ (by decide) rfl
      have ha := hW 13 (by decide)
      rw [hLk, ha] at hM1
      obtain ⟨G, hv, hg⟩ := hM1.ptr
      have HM := Lib.hid hM1
      have c0 : xw.cell? ⟨G, 0, none⟩ = some (.int .i64 0) ∧ xw.cell? ⟨G, 1, none⟩ = some (.int .i64 0) ∧ xw.cell? ⟨G, 2, none⟩ = some (.int .i64 0) ∧ xw.cell? ⟨G, 3, none⟩ = some (.int .u64 0) ∧ xw.frozen? ⟨G, 0, none⟩ = false ∧ xw.frozen? ⟨G, 1, none⟩ = false ∧ xw.frozen? ⟨G, 2, none⟩ = false ∧ xw.frozen? ⟨G, 3, none⟩ = false := by simp [World.cell?, World.frozen?, hg]
      clear hM1 hg
      refine ⟨wanted_none rfl, ?_⟩
      simp only [putAll, Act.put, List.setIfInBounds_toArray, List.set_cons_succ, List.set_cons_zero, e11, hv]
      refine vstep_one (W := (((xw.setCell ⟨G, 0, none⟩ (.int .i64 z.ck)).setCell ⟨G, 1, none⟩ (.int .i64 z.k)).setCell ⟨G, 2, none⟩ (.int .i64 z.h)).setCell ⟨G, 3, none⟩ (.int .u64 z.n)) ⟨undef, rfl, by simp only [Nat.zero_add, Nat.reduceAdd, Nat.reduceBEq, beq_self_eq_true, Bool.or_true, Bool.or_false, Nat.reduceEqDiff, if_true, if_false, reduceIte]; rw [ha]; have := HM.out.sto hv; rw [hv] at this; exact ⟨this, hM2⟩⟩ ?_
      unfold Oper.wp
      go_simp
    · intro L v xw hLk hW hF hbk hM
      have hM1 := hM.1
      have hM2 := hM.2
      have e12 : v 12 = .int .i64 er := hF 12 _ (by decide) rfl
      refine ⟨wanted_none rfl, ?_⟩
      simp only [putAll, Act.put, List.setIfInBounds_toArray, List.set_cons_succ, List.set_cons_zero, e12]
      refine vstep_pure rfl (fun q hb => ⟨rfl, hM1.later hb, by first | exact hM2 | exact fun _ => trivial⟩) ?_
      go_big_quiet_step (fail)
      exact wpQuiet_nil rfl
  · intro L v x1 hL hF hM
    have hM1 := hM.1
    rw [hL 9 (by simp), hL 13 (by simp), hL 14 (by simp)] at hM1
    obtain ⟨G, hs, hv, _⟩ := hM1
    have hv := hv rfl
    have F1 : Hid (SF S w0 x1 p st' ((G, .cells #[.int .i64 z.ck, .int .i64 z.k, .int .i64 z.h, .int .u64 z.n] 36 (0, 0)) :: (t, talkC p y) :: L0)) := Lib.hid hs
    clear hs
    have f0 := hF 0 _ (by simp) rfl
    have f1 := hF 1 _ (by simp) rfl
    have f2 := hF 2 _ (by simp) rfl
    have f3 := hF 3 _ (by simp) rfl
    have f4 := hF 4 _ (by simp) rfl
    have f5 := hF 5 _ (by simp) rfl
    have f6 := hF 6 _ (by simp) rfl
    have f7 := hF 7 _ (by simp) rfl
    have f8 := hF 8 _ (by simp) rfl
    have f10 := hF 10 _ (by simp) rfl
    have f11 := hF 11 _ (by simp) rfl
    have f12 := hF 12 _ (by simp) rfl
    have f15 := hF 15 _ (by simp) rfl
    clear hF hM hL F0
    simp only [putAll, Act.put, List.setIfInBounds_toArray, List.set_cons_succ, List.set_cons_zero, hv, f0, f1, f2, f3, f4, f5, f6, f7, f8, f10, f11, f12, f15]
    clear f0 f1 f2 f3 f4 f5 f6 f7 f8 f10 f11 f12 f15 hv
    go_wp2_with fail
    refine (must_er HE.out _).mono ?_
    rintro e w1 ⟨rfl, rfl⟩
    exact ⟨rfl, rfl, F1.out.sub (List.sublist_cons_self _ _)⟩
set_option maxRecDepth 100000 in
set_option maxHeartbeats 1600000 in
theorem tmix_ok {S : List Nat} {w0 W : World} {p t : Nat} {st st' : Sough.Store} {y z : Sough.Sym} {x : Int} {L0 : List (Nat × Obj)} (h : SF S w0 W p st ((t, talkC p y) :: L0)) (hy : y.Wf) (hx : Sough.Int64 x) (hf : Sough.symMix st y x = (st', z, 0)) : Calls Try.prog 32 #[.pointer (some ⟨t, 0, none⟩), .int .i64 x] W fun e w' => e = .returned (.tuple #[]) ∧ SF S w0 w' p st' ((t, talkC p z) :: L0) := by
  have F0 := Lib.hid h
  have HF := Lib.hid hf
  have HY := Lib.hid hy; have HX := Lib.hid hx
  clear hy hx
  clear h hf
  go_enter Try.func32, Try.ntmps32
  go_wp2_with fail
  refine wp_vals (n := 25) (fun k => match k with
    | 0 => some (.pointer (some ⟨t, 0, none⟩))
    | 1 => some (.pointer (some ⟨t, 0, none⟩))
    | 2 => some (.pointer (some ⟨t, 1, none⟩))
    | 3 => some (.agg #[.int .i64 y.ck, .int .i64 y.k, .int .i64 y.h, .int .u64 y.n])
    | 4 => some (.pointer (some ⟨t, 0, none⟩))
    | 5 => some (.pointer (some ⟨t, 0, none⟩))
    | 6 => some (.pointer (some ⟨t, 0, none⟩))
    | 7 => some (.pointer (some ⟨p, 0, none⟩))
    | 8 => some (.int .i64 x)
    | 10 => some (.tuple #[.agg #[.int .i64 z.ck, .int .i64 z.k, .int .i64 z.h, .int .u64 z.n], .int .i64 0])
    | 11 => some (.agg #[.int .i64 z.ck, .int .i64 z.k, .int .i64 z.h, .int .u64 z.n])
    | 12 => some (.int .i64 0)
    | 15 => some (.int .i64 0)
    | _ => none) (fun L v x => TalkM S w0 p st st' ((t, talkC p y) :: L0) 36 #[.int .i64 0, .int .i64 0, .int .i64 0, .int .u64 0] #[.int .i64 z.ck, .int .i64 z.k, .int .i64 z.h, .int .u64 z.n] (L 9) (L 13) (L 14) (v 13) x ∧ (L 9 = true → v 9 = .tuple #[.agg #[.int .i64 z.ck, .int .i64 z.k, .int .i64 z.h, .int .u64 z.n], .int .i64 0])) (by kernel_rfl) (by kernel_rfl) ?_ ?_ ?_ ?_
  · intro L v hL
    rw [hL 9 (by simp), hL 13 (by simp), hL 14 (by simp)]
    exact ⟨TalkM.start F0.out, fun h => absurd h (by simp)⟩
  · intro L L' v v' x hk hM
    have hM1 := hM.1
    have hM2 := hM.2
    have ec := hk 9 (by simp) rfl
    have ea := hk 13 (by simp) rfl
    rw [ec.1, ea.1, (hk 14 (by simp) rfl).1] at hM1
    exact ⟨hM1.congr (fun h => ea.2 (ea.1.trans h)), fun h => (ec.2 (ec.1.trans h)).symm.trans (hM2 (ec.1.trans h))⟩
  · refine ⟨?_, ?_, ?_, ?_, ?_, ?_, ?_, ?_, ?_, ?_, ?_, ?_, ?_, ?_, ?_, ?_, trivial⟩
    · intro L v xw hLk hW hF hbk hM
      have hM1 := hM.1
      have hM2 := hM.2
      refine ⟨wanted_none rfl, ?_⟩
      simp only [putAll, Act.put, List.setIfInBounds_toArray, List.set_cons_succ, List.set_cons_zero]
      refine vstep_pure rfl (fun q hb => ⟨rfl, hM1.later hb, by first | exact hM2 | exact fun _ => trivial⟩) ?_
      go_big_quiet_step (fail)
      exact wpQuiet_nil rfl
    · intro L v xw hLk hW hF hbk hM
      have hM1 := hM.1
      have hM2 := hM.2
      have e0 : v 0 = .pointer (some ⟨t, 0, none⟩) := hF 0 _ (by decide) rfl
      refine ⟨wanted_none rfl, ?_⟩
      simp only [putAll, Act.put, List.setIfInBounds_toArray, List.set_cons_succ, List.set_cons_zero, e0]
      refine vstep_pure rfl (fun q hb => ⟨rfl, hM1.later hb, by first | exact hM2 | exact fun _ => trivial⟩) ?_
      go_big_quiet_step (fail)
      exact wpQuiet_nil rfl
    · intro L v xw hLk hW hF hbk hM
      have hM1 := hM.1
      have hM2 := hM.2
      have e1 : v 1 = .pointer (some ⟨t, 0, none⟩) := hF 1 _ (by decide) rfl
      refine ⟨wanted_none rfl, ?_⟩
      simp only [putAll, Act.put, List.setIfInBounds_toArray, List.set_cons_succ, List.set_cons_zero, e1]
      refine vstep_pure rfl (fun q hb => ⟨rfl, hM1.later hb, by first | exact hM2 | exact fun _ => trivial⟩) ?_
      go_big_quiet_step (fail)
      exact wpQuiet_nil rfl
    · intro L v xw hLk hW hF hbk hM
      have hM1 := hM.1
      have hM2 := hM.2
      have e2 : v 2 = .pointer (some ⟨t, 1, none⟩) := hF 2 _ (by decide) rfl
      have yy := talk_cells (hM1.blk (k := t) (o := talkC p y) (by simp))
      refine ⟨wanted_none rfl, ?_⟩
      simp only [putAll, Act.put, List.setIfInBounds_toArray, List.set_cons_succ, List.set_cons_zero, e2]
      refine vstep_pure rfl (fun q hb => ⟨rfl, hM1.later hb, by first | exact hM2 | exact fun _ => trivial⟩) ?_
      go_big_quiet_step (fail)
      exact wpQuiet_nil rfl
    · intro L v xw hLk hW hF hbk hM
      have hM1 := hM.1
      have hM2 := hM.2
      refine ⟨wanted_none rfl, ?_⟩
      simp only [putAll, Act.put, List.setIfInBounds_toArray, List.set_cons_succ, List.set_cons_zero]
      refine vstep_pure rfl (fun q hb => ⟨rfl, hM1.later hb, by first | exact hM2 | exact fun _ => trivial⟩) ?_
      go_big_quiet_step (fail)
      exact wpQuiet_nil rfl
    · intro L v xw hLk hW hF hbk hM
      have hM1 := hM.1
      have hM2 := hM.2
      have e4 : v 4 = .pointer (some ⟨t, 0, none⟩) := hF 4 _ (by decide) rfl
      refine ⟨wanted_none rfl, ?_⟩
      simp only [putAll, Act.put, List.setIfInBounds_toArray, List.set_cons_succ, List.set_cons_zero, e4]
      refine vstep_pure rfl (fun q hb => ⟨rfl, hM1.later hb, by first | exact hM2 | exact fun _ => trivial⟩) ?_
      go_big_quiet_step (fail)
      exact wpQuiet_nil rfl
    · intro L v xw hLk hW hF hbk hM
      have hM1 := hM.1
      have hM2 := hM.2
      have e5 : v 5 = .pointer (some ⟨t, 0, none⟩) := hF 5 _ (by decide) rfl
      refine ⟨wanted_none rfl, ?_⟩
      simp only [putAll, Act.put, List.setIfInBounds_toArray, List.set_cons_succ, List.set_cons_zero, e5]
      refine vstep_pure rfl (fun q hb => ⟨rfl, hM1.later hb, by first | exact hM2 | exact fun _ => trivial⟩) ?_
      go_big_quiet_step (fail)
      exact wpQuiet_nil rfl
    · intro L v xw hLk hW hF hbk hM
      have hM1 := hM.1
      have hM2 := hM.2
      have e6 : v 6 = .pointer (some ⟨t, 0, none⟩) := hF 6 _ (by decide) rfl
      have yy := talk_cells (hM1.blk (k := t) (o := talkC p y) (by simp))
      refine ⟨wanted_none rfl, ?_⟩
      simp only [putAll, Act.put, List.setIfInBounds_toArray, List.set_cons_succ, List.set_cons_zero, e6]
      refine vstep_pure rfl (fun q hb => ⟨rfl, hM1.later hb, by first | exact hM2 | exact fun _ => trivial⟩) ?_
      go_big_quiet_step (fail)
      exact wpQuiet_nil rfl
    · intro L v xw hLk hW hF hbk hM
      have hM1 := hM.1
      have hM2 := hM.2
      refine ⟨wanted_none rfl, ?_⟩
      simp only [putAll, Act.put, List.setIfInBounds_toArray, List.set_cons_succ, List.set_cons_zero]
      refine vstep_pure rfl (fun q hb => ⟨rfl, hM1.later hb, by first | exact hM2 | exact fun _ => trivial⟩) ?_
      go_big_quiet_step (fail)
      exact wpQuiet_nil rfl
    · intro L v xw hLk hW hF hbk hM
      have hM1 := hM.1
      have hM2 := hM.2
      have e3 : v 3 = .agg #[.int .i64 y.ck, .int .i64 y.k, .int .i64 y.h, .int .u64 y.n] := hF 3 _ (by decide) rfl
      have e7 : v 7 = .pointer (some ⟨p, 0, none⟩) := hF 7 _ (by decide) rfl
      have e8 : v 8 = .int .i64 x := hF 8 _ (by decide) rfl
      rw [hLk] at hM1
      obtain ⟨L', hs, hnx⟩ := hM1.sf
      have CC := Lib.hid (hs.smix HY.out HX.out HF.out)
      refine ⟨wanted_none rfl, ?_⟩
      simp only [putAll, Act.put, List.setIfInBounds_toArray, List.set_cons_succ, List.set_cons_zero, e3, e7, e8]
      refine vstep_call (fun q => SF S w0 q p st' L') (fun q hq => ⟨.tuple #[.agg #[.int .i64 z.ck, .int .i64 z.k, .int .i64 z.h, .int .u64 z.n], .int .i64 0], rfl, by simp only [Nat.zero_add, Nat.reduceAdd, Nat.reduceBEq, beq_self_eq_true, Bool.or_true, Bool.or_false, Nat.reduceEqDiff, if_true, if_false, reduceIte]; exact ⟨hnx q hq, fun _ => trivial⟩⟩) ?_
      unfold Oper.wp
      go_simp
      refine CC.out.mono ?_
      rintro e q ⟨rfl, hq⟩
      exact ⟨rfl, hq⟩
    · intro L v xw hLk hW hF hbk hM
      have hM1 := hM.1
      have hM2 := hM.2
      have e9 := hM2 (hW 9 (by decide))
      refine ⟨wanted_none rfl, ?_⟩
      simp only [putAll, Act.put, List.setIfInBounds_toArray, List.set_cons_succ, List.set_cons_zero, e9]
      refine vstep_pure rfl (fun q hb => ⟨rfl, hM1.later hb, by first | exact hM2 | exact fun _ => trivial⟩) ?_
      go_big_quiet_step (fail)
      exact wpQuiet_nil rfl
    · intro L v xw hLk hW hF hbk hM
      have hM1 := hM.1
      have hM2 := hM.2
      have e10 : v 10 = .tuple #[.agg #[.int .i64 z.ck, .int .i64 z.k, .int .i64 z.h, .int .u64 z.n], .int .i64 0] := hF 10 _ (by decide) rfl
      refine ⟨wanted_none rfl, ?_⟩
      simp only [putAll, Act.put, List.setIfInBounds_toArray, List.set_cons_succ, List.set_cons_zero, e10]
      refine vstep_pure rfl (fun q hb => ⟨rfl, hM1.later hb, by first | exact hM2 | exact fun _ => trivial⟩) ?_
      go_big_quiet_step (fail)
      exact wpQuiet_nil rfl
    · intro L v xw hLk hW hF hbk hM
      have hM1 := hM.1
      have hM2 := hM.2
      have e10 : v 10 = .tuple #[.agg #[.int .i64 z.ck, .int .i64 z.k, .int .i64 z.h, .int .u64 z.n], .int .i64 0] := hF 10 _ (by decide) rfl
      refine ⟨wanted_none rfl, ?_⟩
      simp only [putAll, Act.put, List.setIfInBounds_toArray, List.set_cons_succ, List.set_cons_zero, e10]
      refine vstep_pure rfl (fun q hb => ⟨rfl, hM1.later hb, by first | exact hM2 | exact fun _ => trivial⟩) ?_
      go_big_quiet_step (fail)
      exact wpQuiet_nil rfl
    · intro L v xw hLk hW hF hbk hM
      have hM1 := hM.1
      have hM2 := hM.2
      have hs : L 14 = false := by
        cases hc : L 14 with
        | false => rfl
        | true =>
          have h8 := hbk 14 13 _ rfl (by decide) hc
          rw [hLk] at h8
          cases h8
      rw [hLk, hs] at hM1
      refine ⟨wanted_none rfl, ?_⟩
      simp only [putAll, Act.put, List.setIfInBounds_toArray, List.set_cons_succ, List.set_cons_zero]
      refine vstep_one (W := xw.alloc (.cells #[.int .i64 0, .int .i64 0, .int .i64 0, .int .u64 0] 36)) ⟨.pointer (some ⟨xw.heap.size, 0, none⟩), rfl, by simp only [Nat.zero_add, Nat.reduceAdd, Nat.reduceBEq, beq_self_eq_true, Bool.or_true, Bool.or_false, Nat.reduceEqDiff, if_true, if_false, reduceIte]; rw [hs]; exact ⟨hM1.alloc, hM2⟩⟩ ?_
      unfold Oper.wp
      go_simp
    · intro L v xw hLk hW hF hbk hM
      have hM1 := hM.1
      have hM2 := hM.2
      have e11 : v 11 = .agg #[.int .i64 z.ck, .int .i64 z.k, .int .i64 z.h, .int .u64 z.n] := hF 11 _ (by decide) rfl
      have ha := hW 13 (by decide)
      rw [hLk, ha] at hM1
      obtain ⟨G, hv, hg⟩ := hM1.ptr
      have HM := Lib.hid hM1
      have c0 : xw.cell? ⟨G, 0, none⟩ = some (.int .i64 0) ∧ xw.cell? ⟨G, 1, none⟩ = some (.int .i64 0) ∧ xw.cell? ⟨G, 2, none⟩ = some (.int .i64 0) ∧ xw.cell? ⟨G, 3, none⟩ = some (.int .u64 0) ∧ xw.frozen? ⟨G, 0, none⟩ = false ∧ xw.frozen? ⟨G, 1, none⟩ = false ∧ xw.frozen? ⟨G, 2, none⟩ = false ∧ xw.frozen? ⟨G, 3, none⟩ = false := by simp [World.cell?, World.frozen?, hg]
      clear hM1 hg
      refine ⟨wanted_none rfl, ?_⟩
      simp only [putAll, Act.put, List.setIfInBounds_toArray, List.set_cons_succ, List.set_cons_zero, e11, hv]
      refine vstep_one (W := (((xw.setCell ⟨G, 0, none⟩ (.int .i64 z.ck)).setCell ⟨G, 1, none⟩ (.int .i64 z.k)).setCell ⟨G, 2, none⟩ (.int .i64 z.h)).setCell ⟨G, 3, none⟩ (.int .u64 z.n)) ⟨undef, rfl, by simp only [Nat.zero_add, Nat.reduceAdd, Nat.reduceBEq, beq_self_eq_true, Bool.or_true, Bool.or_false, Nat.reduceEqDiff, if_true, if_false, reduceIte]; rw [ha]; have := HM.out.sto hv; rw [hv] at this; exact ⟨this, hM2⟩⟩ ?_
      unfold Oper.wp
      go_simp
    · intro L v xw hLk hW hF hbk hM
      have hM1 := hM.1
      have hM2 := hM.2
      have e12 : v 12 = .int .i64 0 := hF 12 _ (by decide) rfl
      refine ⟨wanted_none rfl, ?_⟩
      simp only [putAll, Act.put, List.setIfInBounds_toArray, List.set_cons_succ, List.set_cons_zero, e12]
      refine vstep_pure rfl (fun q hb => ⟨rfl, hM1.later hb, by first | exact hM2 | exact fun _ => trivial⟩) ?_
      go_big_quiet_step (fail)
      exact wpQuiet_nil rfl
  · intro L v x1 hL hF hM
    have hM1 := hM.1
    rw [hL 9 (by simp), hL 13 (by simp), hL 14 (by simp)] at hM1
    obtain ⟨G, hs, hv, _⟩ := hM1
    have hv := hv rfl
    have F1 : Hid (SF S w0 x1 p st' ((G, .cells #[.int .i64 z.ck, .int .i64 z.k, .int .i64 z.h, .int .u64 z.n] 36 (0, 0)) :: (t, talkC p y) :: L0)) := Lib.hid hs
    clear hs
    have f0 := hF 0 _ (by simp) rfl
    have f1 := hF 1 _ (by simp) rfl
    have f2 := hF 2 _ (by simp) rfl
    have f3 := hF 3 _ (by simp) rfl
    have f4 := hF 4 _ (by simp) rfl
    have f5 := hF 5 _ (by simp) rfl
    have f6 := hF 6 _ (by simp) rfl
    have f7 := hF 7 _ (by simp) rfl
    have f8 := hF 8 _ (by simp) rfl
    have f10 := hF 10 _ (by simp) rfl
    have f11 := hF 11 _ (by simp) rfl
    have f12 := hF 12 _ (by simp) rfl
    have f15 := hF 15 _ (by simp) rfl
    clear hF hM hL F0
    simp only [putAll, Act.put, List.setIfInBounds_toArray, List.set_cons_succ, List.set_cons_zero, hv, f0, f1, f2, f3, f4, f5, f6, f7, f8, f10, f11, f12, f15]
    clear f0 f1 f2 f3 f4 f5 f6 f7 f8 f10 f11 f12 f15 hv
    go_wp2_with fail
    refine (must_ok _).mono ?_
    rintro e w1 ⟨rfl, rfl⟩
    have hgc : x1.cell? ⟨G, 0, none⟩ = some (.int .i64 z.ck) ∧ x1.cell? ⟨G, 1, none⟩ = some (.int .i64 z.k) ∧ x1.cell? ⟨G, 2, none⟩ = some (.int .i64 z.h) ∧ x1.cell? ⟨G, 3, none⟩ = some (.int .u64 z.n) := by
      have := F1.out.get 0 rfl
      simp [World.cell?, this]
    obtain ⟨⟨q0, q1, q2, q3, q4⟩, z1, z2, z3, z4⟩ := talk_now (F1.out.get 1 rfl)
    have F2 : Hid (SF S w0 ((((x1.setCell ⟨t, 1, none⟩ (.int .i64 z.ck)).setCell ⟨t, 2, none⟩ (.int .i64 z.k)).setCell ⟨t, 3, none⟩ (.int .i64 z.h)).setCell ⟨t, 4, none⟩ (.int .u64 z.n)) p st' ((G, .cells #[.int .i64 z.ck, .int .i64 z.k, .int .i64 z.h, .int .u64 z.n] 36 (0, 0)) :: (t, talkC p z) :: L0)) :=
      Lib.hid ((((F1.out.set2 1 (.int .i64 z.ck)).set2 2 (.int .i64 z.k)).set2 3 (.int .i64 z.h)).set2 4 (.int .u64 z.n))
    go_wp2_with fail
    go_end0
    exact ⟨rfl, F2.out.sub (List.sublist_cons_self _ _)⟩
set_option maxRecDepth 100000 in
set_option maxHeartbeats 1600000 in
theorem tmix_er {S : List Nat} {w0 W : World} {p t er : Nat} {st st' : Sough.Store} {y z : Sough.Sym} {x : Int} {L0 : List (Nat × Obj)} (h : SF S w0 W p st ((t, talkC p y) :: L0)) (hy : y.Wf) (hx : Sough.Int64 x) (hf : Sough.symMix st y x = (st', z, er)) (he : er ≠ 0) : Calls Try.prog 32 #[.pointer (some ⟨t, 0, none⟩), .int .i64 x] W fun e w' => e = .panicked (wrongP er) ∧ SF S w0 w' p st' ((t, talkC p y) :: L0) := by
  have F0 := Lib.hid h
  have HF := Lib.hid hf
  have HY := Lib.hid hy; have HX := Lib.hid hx
  clear hy hx
  have HE := Lib.hid he
  clear he
  clear h hf
  go_enter Try.func32, Try.ntmps32
  go_wp2_with fail
  refine wp_vals (n := 25) (fun k => match k with
    | 0 => some (.pointer (some ⟨t, 0, none⟩))
    | 1 => some (.pointer (some ⟨t, 0, none⟩))
    | 2 => some (.pointer (some ⟨t, 1, none⟩))
    | 3 => some (.agg #[.int .i64 y.ck, .int .i64 y.k, .int .i64 y.h, .int .u64 y.n])
    | 4 => some (.pointer (some ⟨t, 0, none⟩))
    | 5 => some (.pointer (some ⟨t, 0, none⟩))
    | 6 => some (.pointer (some ⟨t, 0, none⟩))
    | 7 => some (.pointer (some ⟨p, 0, none⟩))
    | 8 => some (.int .i64 x)
    | 10 => some (.tuple #[.agg #[.int .i64 z.ck, .int .i64 z.k, .int .i64 z.h, .int .u64 z.n], .int .i64 er])
    | 11 => some (.agg #[.int .i64 z.ck, .int .i64 z.k, .int .i64 z.h, .int .u64 z.n])
    | 12 => some (.int .i64 er)
    | 15 => some (.int .i64 er)
    | _ => none) (fun L v x => TalkM S w0 p st st' ((t, talkC p y) :: L0) 36 #[.int .i64 0, .int .i64 0, .int .i64 0, .int .u64 0] #[.int .i64 z.ck, .int .i64 z.k, .int .i64 z.h, .int .u64 z.n] (L 9) (L 13) (L 14) (v 13) x ∧ (L 9 = true → v 9 = .tuple #[.agg #[.int .i64 z.ck, .int .i64 z.k, .int .i64 z.h, .int .u64 z.n], .int .i64 er])) (by kernel_rfl) (by kernel_rfl) ?_ ?_ ?_ ?_
  · intro L v hL
    rw [hL 9 (by simp), hL 13 (by simp), hL 14 (by simp)]
    exact ⟨TalkM.start F0.out, fun h => absurd h (by simp)⟩
  · intro L L' v v' x hk hM
    have hM1 := hM.1
    have hM2 := hM.2
    have ec := hk 9 (by simp) rfl
    have ea := hk 13 (by simp) rfl
    rw [ec.1, ea.1, (hk 14 (by simp) rfl).1] at hM1
    exact ⟨hM1.congr (fun h => ea.2 (ea.1.trans h)), fun h => (ec.2 (ec.1.trans h)).symm.trans (hM2 (ec.1.trans h))⟩
  · refine ⟨?_, ?_, ?_, ?_, ?_, ?_, ?_, ?_, ?_, ?_, ?_, ?_, ?_, ?_, ?_, ?_, trivial⟩
    · intro L v xw hLk hW hF hbk hM
      have hM1 := hM.1
      have hM2 := hM.2
      refine ⟨wanted_none rfl, ?_⟩
      simp only [putAll, Act.put, List.setIfInBounds_toArray, List.set_cons_succ, List.set_cons_zero]
      refine vstep_pure rfl (fun q hb => ⟨rfl, hM1.later hb, by first | exact hM2 | exact fun _ => trivial⟩) ?_
      go_big_quiet_step (fail)
      exact wpQuiet_nil rfl
    · intro L v xw hLk hW hF hbk hM
      have hM1 := hM.1
      have hM2 := hM.2
      have e0 : v 0 = .pointer (some ⟨t, 0, none⟩) := hF 0 _ (by decide) rfl
      refine ⟨wanted_none rfl, ?_⟩
      simp only [putAll, Act.put, List.setIfInBounds_toArray, List.set_cons_succ, List.set_cons_zero, e0]
      refine vstep_pure rfl (fun q hb => ⟨rfl, hM1.later hb, by first | exact hM2 | exact fun _ => trivial⟩) ?_
      go_big_quiet_step (fail)
      exact wpQuiet_nil rfl
    · intro L v xw hLk hW hF hbk hM
      have hM1 := hM.1
      have hM2 := hM.2
      have e1 : v 1 = .pointer (some ⟨t, 0, none⟩) := hF 1 _ (by decide) rfl
      refine ⟨wanted_none rfl, ?_⟩
      simp only [putAll, Act.put, List.setIfInBounds_toArray, List.set_cons_succ, List.set_cons_zero, e1]
      refine vstep_pure rfl (fun q hb => ⟨rfl, hM1.later hb, by first | exact hM2 | exact fun _ => trivial⟩) ?_
      go_big_quiet_step (fail)
      exact wpQuiet_nil rfl
    · intro L v xw hLk hW hF hbk hM
      have hM1 := hM.1
      have hM2 := hM.2
      have e2 : v 2 = .pointer (some ⟨t, 1, none⟩) := hF 2 _ (by decide) rfl
      have yy := talk_cells (hM1.blk (k := t) (o := talkC p y) (by simp))
      refine ⟨wanted_none rfl, ?_⟩
      simp only [putAll, Act.put, List.setIfInBounds_toArray, List.set_cons_succ, List.set_cons_zero, e2]
      refine vstep_pure rfl (fun q hb => ⟨rfl, hM1.later hb, by first | exact hM2 | exact fun _ => trivial⟩) ?_
      go_big_quiet_step (fail)
      exact wpQuiet_nil rfl
    · intro L v xw hLk hW hF hbk hM
      have hM1 := hM.1
      have hM2 := hM.2
      refine ⟨wanted_none rfl, ?_⟩
      simp only [putAll, Act.put, List.setIfInBounds_toArray, List.set_cons_succ, List.set_cons_zero]
      refine vstep_pure rfl (fun q hb => ⟨rfl, hM1.later hb, by first | exact hM2 | exact fun _ => trivial⟩) ?_
      go_big_quiet_step (fail)
      exact wpQuiet_nil rfl
    · intro L v xw hLk hW hF hbk hM
      have hM1 := hM.1
      have hM2 := hM.2
      have e4 : v 4 = .pointer (some ⟨t, 0, none⟩) := hF 4 _ (by decide) rfl
      refine ⟨wanted_none rfl, ?_⟩
      simp only [putAll, Act.put, List.setIfInBounds_toArray, List.set_cons_succ, List.set_cons_zero, e4]
      refine vstep_pure rfl (fun q hb => ⟨rfl, hM1.later hb, by first | exact hM2 | exact fun _ => trivial⟩) ?_
      go_big_quiet_step (fail)
      exact wpQuiet_nil rfl
    · intro L v xw hLk hW hF hbk hM
      have hM1 := hM.1
      have hM2 := hM.2
      have e5 : v 5 = .pointer (some ⟨t, 0, none⟩) := hF 5 _ (by decide) rfl
      refine ⟨wanted_none rfl, ?_⟩
      simp only [putAll, Act.put, List.setIfInBounds_toArray, List.set_cons_succ, List.set_cons_zero, e5]
      refine vstep_pure rfl (fun q hb => ⟨rfl, hM1.later hb, by first | exact hM2 | exact fun _ => trivial⟩) ?_
      go_big_quiet_step (fail)
      exact wpQuiet_nil rfl
    · intro L v xw hLk hW hF hbk hM
      have hM1 := hM.1
      have hM2 := hM.2
      have e6 : v 6 = .pointer (some ⟨t, 0, none⟩) := hF 6 _ (by decide) rfl
      have yy := talk_cells (hM1.blk (k := t) (o := talkC p y) (by simp))
      refine ⟨wanted_none rfl, ?_⟩
      simp only [putAll, Act.put, List.setIfInBounds_toArray, List.set_cons_succ, List.set_cons_zero, e6]
      refine vstep_pure rfl (fun q hb => ⟨rfl, hM1.later hb, by first | exact hM2 | exact fun _ => trivial⟩) ?_
      go_big_quiet_step (fail)
      exact wpQuiet_nil rfl
    · intro L v xw hLk hW hF hbk hM
      have hM1 := hM.1
      have hM2 := hM.2
      refine ⟨wanted_none rfl, ?_⟩
      simp only [putAll, Act.put, List.setIfInBounds_toArray, List.set_cons_succ, List.set_cons_zero]
      refine vstep_pure rfl (fun q hb => ⟨rfl, hM1.later hb, by first | exact hM2 | exact fun _ => trivial⟩) ?_
      go_big_quiet_step (fail)
      exact wpQuiet_nil rfl
    · intro L v xw hLk hW hF hbk hM
      have hM1 := hM.1
      have hM2 := hM.2
      have e3 : v 3 = .agg #[.int .i64 y.ck, .int .i64 y.k, .int .i64 y.h, .int .u64 y.n] := hF 3 _ (by decide) rfl
      have e7 : v 7 = .pointer (some ⟨p, 0, none⟩) := hF 7 _ (by decide) rfl
      have e8 : v 8 = .int .i64 x := hF 8 _ (by decide) rfl
      rw [hLk] at hM1
      obtain ⟨L', hs, hnx⟩ := hM1.sf
      have CC := Lib.hid (hs.smix HY.out HX.out HF.out)
      refine ⟨wanted_none rfl, ?_⟩
      simp only [putAll, Act.put, List.setIfInBounds_toArray, List.set_cons_succ, List.set_cons_zero, e3, e7, e8]
      refine vstep_call (fun q => SF S w0 q p st' L') (fun q hq => ⟨.tuple #[.agg #[.int .i64 z.ck, .int .i64 z.k, .int .i64 z.h, .int .u64 z.n], .int .i64 er], rfl, by simp only [Nat.zero_add, Nat.reduceAdd, Nat.reduceBEq, beq_self_eq_true, Bool.or_true, Bool.or_false, Nat.reduceEqDiff, if_true, if_false, reduceIte]; exact ⟨hnx q hq, fun _ => trivial⟩⟩) ?_
      unfold Oper.wp
      go_simp
      refine CC.out.mono ?_
      rintro e q ⟨rfl, hq⟩
      exact ⟨rfl, hq⟩
    · intro L v xw hLk hW hF hbk hM
      have hM1 := hM.1
      have hM2 := hM.2
      have e9 := hM2 (hW 9 (by decide))
      refine ⟨wanted_none rfl, ?_⟩
      simp only [putAll, Act.put, List.setIfInBounds_toArray, List.set_cons_succ, List.set_cons_zero, e9]
      refine vstep_pure rfl (fun q hb => ⟨rfl, hM1.later hb, by first | exact hM2 | exact fun _ => trivial⟩) ?_
      go_big_quiet_step (fail)
      exact wpQuiet_nil rfl
    · intro L v xw hLk hW hF hbk hM
      have hM1 := hM.1
      have hM2 := hM.2
      have e10 : v 10 = .tuple #[.agg #[.int .i64 z.ck, .int .i64 z.k, .int .i64 z.h, .int .u64 z.n], .int .i64 er] := hF 10 _ (by decide) rfl
      refine ⟨wanted_none rfl, ?_⟩
      simp only [putAll, Act.put, List.setIfInBounds_toArray, List.set_cons_succ, List.set_cons_zero, e10]
      refine vstep_pure rfl (fun q hb => ⟨rfl, hM1.later hb, by first | exact hM2 | exact fun _ => trivial⟩) ?_
      go_big_quiet_step (fail)
      exact wpQuiet_nil rfl
    · intro L v xw hLk hW hF hbk hM
      have hM1 := hM.1
      have hM2 := hM.2
      have e10 : v 10 = .tuple #[.agg #[.int .i64 z.ck, .int .i64 z.k, .int .i64 z.h, .int .u64 z.n], .int .i64 er] := hF 10 _ (by decide) rfl
      refine ⟨wanted_none rfl, ?_⟩
      simp only [putAll, Act.put, List.setIfInBounds_toArray, List.set_cons_succ, List.set_cons_zero, e10]
      refine vstep_pure rfl (fun q hb => ⟨rfl, hM1.later hb, by first | exact hM2 | exact fun _ => trivial⟩) ?_
      go_big_quiet_step (fail)
      exact wpQuiet_nil rfl
    · intro L v xw hLk hW hF hbk hM
      have hM1 := hM.1
      have hM2 := hM.2
      have hs : L 14 = false := by
        cases hc : L 14 with
        | false => rfl
        | true =>
          have h8 := hbk 14 13 _ rfl (by decide) hc
          rw [hLk] at h8
          cases h8
      rw [hLk, hs] at hM1
      refine ⟨wanted_none rfl, ?_⟩
      simp only [putAll, Act.put, List.setIfInBounds_toArray, List.set_cons_succ, List.set_cons_zero]
      refine vstep_one (W := xw.alloc (.cells #[.int .i64 0, .int .i64 0, .int .i64 0, .int .u64 0] 36)) ⟨.pointer (some ⟨xw.heap.size, 0, none⟩), rfl, by simp only [Nat.zero_add, Nat.reduceAdd, Nat.reduceBEq, beq_self_eq_true, Bool.or_true, Bool.or_false, Nat.reduceEqDiff, if_true, if_false, reduceIte]; rw [hs]; exact ⟨hM1.alloc, hM2⟩⟩ ?_
      unfold Oper.wp
      go_simp
    · intro L v xw hLk hW hF hbk hM
      have hM1 := hM.1
      have hM2 := hM.2
      have e11 : v 11 = .agg #[.int .i64 z.ck, .int .i64 z.k, .int .i64 z.h, .int .u64 z.n] := hF 11 _ (by decide) rfl
      have ha := hW 13 (by decide)
      rw [hLk, ha] at hM1
      obtain ⟨G, hv, hg⟩ := hM1.ptr
      have HM := Lib.hid hM1
      have c0 : xw.cell? ⟨G, 0, none⟩ = some (.int .i64 0) ∧ xw.cell? ⟨G, 1, none⟩ = some (.int .i64 0) ∧ xw.cell? ⟨G, 2, none⟩ = some (.int .i64 0) ∧ xw.cell? ⟨G, 3, none⟩ = some (.int .u64 0) ∧ xw.frozen? ⟨G, 0, none⟩ = false ∧ xw.frozen? ⟨G, 1, none⟩ = false ∧ xw.frozen? ⟨G, 2, none⟩ = false ∧ xw.frozen? ⟨G, 3, none⟩ = false := by simp [World.cell?, World.frozen?, hg]
      clear hM1 hg
      refine ⟨wanted_none rfl, ?_⟩
      simp only [putAll, Act.put, List.setIfInBounds_toArray, List.set_cons_succ, List.set_cons_zero, e11, hv]
      refine vstep_one (W := (((xw.setCell ⟨G, 0, none⟩ (.int .i64 z.ck)).setCell ⟨G, 1, none⟩ (.int .i64 z.k)).setCell ⟨G, 2, none⟩ (.int .i64 z.h)).setCell ⟨G, 3, none⟩ (.int .u64 z.n)) ⟨undef, rfl, by simp only [Nat.zero_add, Nat.reduceAdd, Nat.reduceBEq, beq_self_eq_true, Bool.or_true, Bool.or_false, Nat.reduceEqDiff, if_true, if_false, reduceIte]; rw [ha]; have := HM.out.sto hv; rw [hv] at this; exact ⟨this, hM2⟩⟩ ?_
      unfold Oper.wp
      go_simp
    · intro L v xw hLk hW hF hbk hM
      have hM1 := hM.1
      have hM2 := hM.2
      have e12 : v 12 = .int .i64 er := hF 12 _ (by decide) rfl
      refine ⟨wanted_none rfl, ?_⟩
      simp only [putAll, Act.put, List.setIfInBounds_toArray, List.set_cons_succ, List.set_cons_zero, e12]
      refine vstep_pure rfl (fun q hb => ⟨rfl, hM1.later hb, by first | exact hM2 | exact fun _ => trivial⟩) ?_
      go_big_quiet_step (fail)
      exact wpQuiet_nil rfl
  · intro L v x1 hL hF hM
    have hM1 := hM.1
    rw [hL 9 (by simp), hL 13 (by simp), hL 14 (by simp)] at hM1
    obtain ⟨G, hs, hv, _⟩ := hM1
    have hv := hv rfl
    have F1 : Hid (SF S w0 x1 p st' ((G, .cells #[.int .i64 z.ck, .int .i64 z.k, .int .i64 z.h, .int .u64 z.n] 36 (0, 0)) :: (t, talkC p y) :: L0)) := Lib.hid hs
    clear hs
    have f0 := hF 0 _ (by simp) rfl
    have f1 := hF 1 _ (by simp) rfl
    have f2 := hF 2 _ (by simp) rfl
    have f3 := hF 3 _ (by simp) rfl
    have f4 := hF 4 _ (by simp) rfl
    have f5 := hF 5 _ (by simp) rfl
    have f6 := hF 6 _ (by simp) rfl
    have f7 := hF 7 _ (by simp) rfl
    have f8 := hF 8 _ (by simp) rfl
    have f10 := hF 10 _ (by simp) rfl
    have f11 := hF 11 _ (by simp) rfl
    have f12 := hF 12 _ (by simp) rfl
    have f15 := hF 15 _ (by simp) rfl
    clear hF hM hL F0
    simp only [putAll, Act.put, List.setIfInBounds_toArray, List.set_cons_succ, List.set_cons_zero, hv, f0, f1, f2, f3, f4, f5, f6, f7, f8, f10, f11, f12, f15]
    clear f0 f1 f2 f3 f4 f5 f6 f7 f8 f10 f11 f12 f15 hv
    go_wp2_with fail
    refine (must_er HE.out _).mono ?_
    rintro e w1 ⟨rfl, rfl⟩
    exact ⟨rfl, rfl, F1.out.sub (List.sublist_cons_self _ _)⟩
set_option maxRecDepth 100000 in
set_option maxHeartbeats 1600000 in
theorem tseal_ok {S : List Nat} {w0 W : World} {p t : Nat} {st st' : Sough.Store} {y z : Sough.Sym} {x x' : Int} {L0 : List (Nat × Obj)} (h : SF S w0 W p st ((t, talkC p y) :: L0)) (hy : y.Wf) (hx : Sough.Int64 x) (hf : Sough.symSeal st y x = (st', z, x', 0)) : Calls Try.prog 35 #[.pointer (some ⟨t, 0, none⟩), .int .i64 x] W fun e w' => e = .returned (.int .i64 x') ∧ SF S w0 w' p st' ((t, talkC p z) :: L0) := by
  have F0 := Lib.hid h
  have HF := Lib.hid hf
  have HY := Lib.hid hy; have HX := Lib.hid hx
  clear hy hx
  clear h hf
  go_enter Try.func35, Try.ntmps35
  go_wp2_with fail
  refine wp_vals (n := 29) (fun k => match k with
    | 0 => some (.pointer (some ⟨t, 0, none⟩))
    | 1 => some (.pointer (some ⟨t, 0, none⟩))
    | 2 => some (.pointer (some ⟨t, 1, none⟩))
    | 3 => some (.agg #[.int .i64 y.ck, .int .i64 y.k, .int .i64 y.h, .int .u64 y.n])
    | 4 => some (.pointer (some ⟨t, 0, none⟩))
    | 5 => some (.pointer (some ⟨t, 0, none⟩))
    | 6 => some (.pointer (some ⟨t, 0, none⟩))
    | 7 => some (.pointer (some ⟨p, 0, none⟩))
    | 8 => some (.int .i64 x)
    | 10 => some (.tuple #[.agg #[.int .i64 z.ck, .int .i64 z.k, .int .i64 z.h, .int .u64 z.n], .int .i64 x', .int .i64 0])
    | 11 => some (.agg #[.int .i64 z.ck, .int .i64 z.k, .int .i64 z.h, .int .u64 z.n])
    | 12 => some (.int .i64 x')
    | 13 => some (.int .i64 0)
    | 16 => some (.int .i64 x')
    | 17 => some (.int .i64 0)
    | _ => none) (fun L v x => TalkM S w0 p st st' ((t, talkC p y) :: L0) 36 #[.int .i64 0, .int .i64 0, .int .i64 0, .int .u64 0] #[.int .i64 z.ck, .int .i64 z.k, .int .i64 z.h, .int .u64 z.n] (L 9) (L 14) (L 15) (v 14) x ∧ (L 9 = true → v 9 = .tuple #[.agg #[.int .i64 z.ck, .int .i64 z.k, .int .i64 z.h, .int .u64 z.n], .int .i64 x', .int .i64 0])) (by kernel_rfl) (by kernel_rfl) ?_ ?_ ?_ ?_
  · intro L v hL
    rw [hL 9 (by simp), hL 14 (by simp), hL 15 (by simp)]
    exact ⟨TalkM.start F0.out, fun h => absurd h (by simp)⟩
  · intro L L' v v' x hk hM
    have hM1 := hM.1
    have hM2 := hM.2
    have ec := hk 9 (by simp) rfl
    have ea := hk 14 (by simp) rfl
    rw [ec.1, ea.1, (hk 15 (by simp) rfl).1] at hM1
    exact ⟨hM1.congr (fun h => ea.2 (ea.1.trans h)), fun h => (ec.2 (ec.1.trans h)).symm.trans (hM2 (ec.1.trans h))⟩
  · refine ⟨?_, ?_, ?_, ?_, ?_, ?_, ?_, ?_, ?_, ?_, ?_, ?_, ?_, ?_, ?_, ?_, ?_, ?_, trivial⟩
    · intro L v xw hLk hW hF hbk hM
      have hM1 := hM.1
      have hM2 := hM.2
      refine ⟨wanted_none rfl, ?_⟩
      simp only [putAll, Act.put, List.setIfInBounds_toArray, List.set_cons_succ, List.set_cons_zero]
      refine vstep_pure rfl (fun q hb => ⟨rfl, hM1.later hb, by first | exact hM2 | exact fun _ => trivial⟩) ?_
      go_big_quiet_step (fail)
      exact wpQuiet_nil rfl
    · intro L v xw hLk hW hF hbk hM
      have hM1 := hM.1
      have hM2 := hM.2
      have e0 : v 0 = .pointer (some ⟨t, 0, none⟩) := hF 0 _ (by decide) rfl
      refine ⟨wanted_none rfl, ?_⟩
      simp only [putAll, Act.put, List.setIfInBounds_toArray, List.set_cons_succ, List.set_cons_zero, e0]
      refine vstep_pure rfl (fun q hb => ⟨rfl, hM1.later hb, by first | exact hM2 | exact fun _ => trivial⟩) ?_
      go_big_quiet_step (fail)
      exact wpQuiet_nil rfl
    · intro L v xw hLk hW hF hbk hM
      have hM1 := hM.1
      have hM2 := hM.2
      have e1 : v 1 = .pointer (some ⟨t, 0, none⟩) := hF 1 _ (by decide) rfl
      refine ⟨wanted_none rfl, ?_⟩
      simp only [putAll, Act.put, List.setIfInBounds_toArray, List.set_cons_succ, List.set_cons_zero, e1]
      refine vstep_pure rfl (fun q hb => ⟨rfl, hM1.later hb, by first | exact hM2 | exact fun _ => trivial⟩) ?_
      go_big_quiet_step (fail)
      exact wpQuiet_nil rfl
    · intro L v xw hLk hW hF hbk hM
      have hM1 := hM.1
      have hM2 := hM.2
      have e2 : v 2 = .pointer (some ⟨t, 1, none⟩) := hF 2 _ (by decide) rfl
      have yy := talk_cells (hM1.blk (k := t) (o := talkC p y) (by simp))
      refine ⟨wanted_none rfl, ?_⟩
      simp only [putAll, Act.put, List.setIfInBounds_toArray, List.set_cons_succ, List.set_cons_zero, e2]
      refine vstep_pure rfl (fun q hb => ⟨rfl, hM1.later hb, by first | exact hM2 | exact fun _ => trivial⟩) ?_
      go_big_quiet_step (fail)
      exact wpQuiet_nil rfl
    · intro L v xw hLk hW hF hbk hM
      have hM1 := hM.1
      have hM2 := hM.2
      refine ⟨wanted_none rfl, ?_⟩
      simp only [putAll, Act.put, List.setIfInBounds_toArray, List.set_cons_succ, List.set_cons_zero]
      refine vstep_pure rfl (fun q hb => ⟨rfl, hM1.later hb, by first | exact hM2 | exact fun _ => trivial⟩) ?_
      go_big_quiet_step (fail)
      exact wpQuiet_nil rfl
    · intro L v xw hLk hW hF hbk hM
      have hM1 := hM.1
      have hM2 := hM.2
      have e4 : v 4 = .pointer (some ⟨t, 0, none⟩) := hF 4 _ (by decide) rfl
      refine ⟨wanted_none rfl, ?_⟩
      simp only [putAll, Act.put, List.setIfInBounds_toArray, List.set_cons_succ, List.set_cons_zero, e4]
      refine vstep_pure rfl (fun q hb => ⟨rfl, hM1.later hb, by first | exact hM2 | exact fun _ => trivial⟩) ?_
      go_big_quiet_step (fail)
      exact wpQuiet_nil rfl
    · intro L v xw hLk hW hF hbk hM
      have hM1 := hM.1
      have hM2 := hM.2
      have e5 : v 5 = .pointer (some ⟨t, 0, none⟩) := hF 5 _ (by decide) rfl
      refine ⟨wanted_none rfl, ?_⟩
      simp only [putAll, Act.put, List.setIfInBounds_toArray, List.set_cons_succ, List.set_cons_zero, e5]
      refine vstep_pure rfl (fun q hb => ⟨rfl, hM1.later hb, by first | exact hM2 | exact fun _ => trivial⟩) ?_
      go_big_quiet_step (fail)
      exact wpQuiet_nil rfl
    · intro L v xw hLk hW hF hbk hM
      have hM1 := hM.1
      have hM2 := hM.2
      have e6 : v 6 = .pointer (some ⟨t, 0, none⟩) := hF 6 _ (by decide) rfl
      have yy := talk_cells (hM1.blk (k := t) (o := talkC p y) (by simp))
      refine ⟨wanted_none rfl, ?_⟩
      simp only [putAll, Act.put, List.setIfInBounds_toArray, List.set_cons_succ, List.set_cons_zero, e6]
      refine vstep_pure rfl (fun q hb => ⟨rfl, hM1.later hb, by first | exact hM2 | exact fun _ => trivial⟩) ?_
      go_big_quiet_step (fail)
      exact wpQuiet_nil rfl
    · intro L v xw hLk hW hF hbk hM
      have hM1 := hM.1
      have hM2 := hM.2
      refine ⟨wanted_none rfl, ?_⟩
      simp only [putAll, Act.put, List.setIfInBounds_toArray, List.set_cons_succ, List.set_cons_zero]
      refine vstep_pure rfl (fun q hb => ⟨rfl, hM1.later hb, by first | exact hM2 | exact fun _ => trivial⟩) ?_
      go_big_quiet_step (fail)
      exact wpQuiet_nil rfl
    · intro L v xw hLk hW hF hbk hM
      have hM1 := hM.1
      have hM2 := hM.2
      have e3 : v 3 = .agg #[.int .i64 y.ck, .int .i64 y.k, .int .i64 y.h, .int .u64 y.n] := hF 3 _ (by decide) rfl
      have e7 : v 7 = .pointer (some ⟨p, 0, none⟩) := hF 7 _ (by decide) rfl
      have e8 : v 8 = .int .i64 x := hF 8 _ (by decide) rfl
      rw [hLk] at hM1
      obtain ⟨L', hs, hnx⟩ := hM1.sf
      have CC := Lib.hid (hs.sseal HY.out HX.out HF.out)
      refine ⟨wanted_none rfl, ?_⟩
      simp only [putAll, Act.put, List.setIfInBounds_toArray, List.set_cons_succ, List.set_cons_zero, e3, e7, e8]
      refine vstep_call (fun q => SF S w0 q p st' L') (fun q hq => ⟨.tuple #[.agg #[.int .i64 z.ck, .int .i64 z.k, .int .i64 z.h, .int .u64 z.n], .int .i64 x', .int .i64 0], rfl, by simp only [Nat.zero_add, Nat.reduceAdd, Nat.reduceBEq, beq_self_eq_true, Bool.or_true, Bool.or_false, Nat.reduceEqDiff, if_true, if_false, reduceIte]; exact ⟨hnx q hq, fun _ => trivial⟩⟩) ?_
      unfold Oper.wp
      go_simp
      refine CC.out.mono ?_
      rintro e q ⟨rfl, hq⟩
      exact ⟨rfl, hq⟩
    · intro L v xw hLk hW hF hbk hM
      have hM1 := hM.1
      have hM2 := hM.2
      have e9 := hM2 (hW 9 (by decide))
      refine ⟨wanted_none rfl, ?_⟩
      simp only [putAll, Act.put, List.setIfInBounds_toArray, List.set_cons_succ, List.set_cons_zero, e9]
      refine vstep_pure rfl (fun q hb => ⟨rfl, hM1.later hb, by first | exact hM2 | exact fun _ => trivial⟩) ?_
      go_big_quiet_step (fail)
      exact wpQuiet_nil rfl
    · intro L v xw hLk hW hF hbk hM
      have hM1 := hM.1
      have hM2 := hM.2
      have e10 : v 10 = .tuple #[.agg #[.int .i64 z.ck, .int .i64 z.k, .int .i64 z.h, .int .u64 z.n], .int .i64 x', .int .i64 0] := hF 10 _ (by decide) rfl
      refine ⟨wanted_none rfl, ?_⟩
      simp only [putAll, Act.put, List.setIfInBounds_toArray, List.set_cons_succ, List.set_cons_zero, e10]
      refine vstep_pure rfl (fun q hb => ⟨rfl, hM1.later hb, by first | exact hM2 | exact fun _ => trivial⟩) ?_
      go_big_quiet_step (fail)
      exact wpQuiet_nil rfl
    · intro L v xw hLk hW hF hbk hM
      have hM1 := hM.1
      have hM2 := hM.2
      have e10 : v 10 = .tuple #[.agg #[.int .i64 z.ck, .int .i64 z.k, .int .i64 z.h, .int .u64 z.n], .int .i64 x', .int .i64 0] := hF 10 _ (by decide) rfl
      refine ⟨wanted_none rfl, ?_⟩
      simp only [putAll, Act.put, List.setIfInBounds_toArray, List.set_cons_succ, List.set_cons_zero, e10]
      refine vstep_pure rfl (fun q hb => ⟨rfl, hM1.later hb, by first | exact hM2 | exact fun _ => trivial⟩) ?_
      go_big_quiet_step (fail)
      exact wpQuiet_nil rfl
    · intro L v xw hLk hW hF hbk hM
      have hM1 := hM.1
      have hM2 := hM.2
      have e10 : v 10 = .tuple #[.agg #[.int .i64 z.ck, .int .i64 z.k, .int .i64 z.h, .int .u64 z.n], .int .i64 x', .int .i64 0] := hF 10 _ (by decide) rfl
      refine ⟨wanted_none rfl, ?_⟩
      simp only [putAll, Act.put, List.setIfInBounds_toArray, List.set_cons_succ, List.set_cons_zero, e10]
      refine vstep_pure rfl (fun q hb => ⟨rfl, hM1.later hb, by first | exact hM2 | exact fun _ => trivial⟩) ?_
      go_big_quiet_step (fail)
      exact wpQuiet_nil rfl
    · intro L v xw hLk hW hF hbk hM
      have hM1 := hM.1
      have hM2 := hM.2
      have hs : L 15 = false := by
        cases hc : L 15 with
        | false => rfl
        | true =>
          have h8 := hbk 15 14 _ rfl (by decide) hc
          rw [hLk] at h8
          cases h8
      rw [hLk, hs] at hM1
      refine ⟨wanted_none rfl, ?_⟩
      simp only [putAll, Act.put, List.setIfInBounds_toArray, List.set_cons_succ, List.set_cons_zero]
      refine vstep_one (W := xw.alloc (.cells #[.int .i64 0, .int .i64 0, .int .i64 0, .int .u64 0] 36)) ⟨.pointer (some ⟨xw.heap.size, 0, none⟩), rfl, by simp only [Nat.zero_add, Nat.reduceAdd, Nat.reduceBEq, beq_self_eq_true, Bool.or_true, Bool.or_false, Nat.reduceEqDiff, if_true, if_false, reduceIte]; rw [hs]; exact ⟨hM1.alloc, hM2⟩⟩ ?_
      unfold Oper.wp
      go_simp
    · intro L v xw hLk hW hF hbk hM
      have hM1 := hM.1
      have hM2 := hM.2
      have e11 : v 11 = .agg #[.int .i64 z.ck, .int .i64 z.k, .int .i64 z.h, .int .u64 z.n] := hF 11 _ (by decide) rfl
      have ha := hW 14 (by decide)
      rw [hLk, ha] at hM1
      obtain ⟨G, hv, hg⟩ := hM1.ptr
      have HM := Lib.hid hM1
      have c0 : xw.cell? ⟨G, 0, none⟩ = some (.int .i64 0) ∧ xw.cell? ⟨G, 1, none⟩ = some (.int .i64 0) ∧ xw.cell? ⟨G, 2, none⟩ = some (.int .i64 0) ∧ xw.cell? ⟨G, 3, none⟩ = some (.int .u64 0) ∧ xw.frozen? ⟨G, 0, none⟩ = false ∧ xw.frozen? ⟨G, 1, none⟩ = false ∧ xw.frozen? ⟨G, 2, none⟩ = false ∧ xw.frozen? ⟨G, 3, none⟩ = false := by simp [World.cell?, World.frozen?, hg]
      clear hM1 hg
      refine ⟨wanted_none rfl, ?_⟩
      simp only [putAll, Act.put, List.setIfInBounds_toArray, List.set_cons_succ, List.set_cons_zero, e11, hv]
      refine vstep_one (W := (((xw.setCell ⟨G, 0, none⟩ (.int .i64 z.ck)).setCell ⟨G, 1, none⟩ (.int .i64 z.k)).setCell ⟨G, 2, none⟩ (.int .i64 z.h)).setCell ⟨G, 3, none⟩ (.int .u64 z.n)) ⟨undef, rfl, by simp only [Nat.zero_add, Nat.reduceAdd, Nat.reduceBEq, beq_self_eq_true, Bool.or_true, Bool.or_false, Nat.reduceEqDiff, if_true, if_false, reduceIte]; rw [ha]; have := HM.out.sto hv; rw [hv] at this; exact ⟨this, hM2⟩⟩ ?_
      unfold Oper.wp
      go_simp
    · intro L v xw hLk hW hF hbk hM
      have hM1 := hM.1
      have hM2 := hM.2
      have e12 : v 12 = .int .i64 x' := hF 12 _ (by decide) rfl
      refine ⟨wanted_none rfl, ?_⟩
      simp only [putAll, Act.put, List.setIfInBounds_toArray, List.set_cons_succ, List.set_cons_zero, e12]
      refine vstep_pure rfl (fun q hb => ⟨rfl, hM1.later hb, by first | exact hM2 | exact fun _ => trivial⟩) ?_
      go_big_quiet_step (fail)
      exact wpQuiet_nil rfl
    · intro L v xw hLk hW hF hbk hM
      have hM1 := hM.1
      have hM2 := hM.2
      have e13 : v 13 = .int .i64 0 := hF 13 _ (by decide) rfl
      refine ⟨wanted_none rfl, ?_⟩
      simp only [putAll, Act.put, List.setIfInBounds_toArray, List.set_cons_succ, List.set_cons_zero, e13]
      refine vstep_pure rfl (fun q hb => ⟨rfl, hM1.later hb, by first | exact hM2 | exact fun _ => trivial⟩) ?_
      go_big_quiet_step (fail)
      exact wpQuiet_nil rfl
  · intro L v x1 hL hF hM
    have hM1 := hM.1
    rw [hL 9 (by simp), hL 14 (by simp), hL 15 (by simp)] at hM1
    obtain ⟨G, hs, hv, _⟩ := hM1
    have hv := hv rfl
    have F1 : Hid (SF S w0 x1 p st' ((G, .cells #[.int .i64 z.ck, .int .i64 z.k, .int .i64 z.h, .int .u64 z.n] 36 (0, 0)) :: (t, talkC p y) :: L0)) := Lib.hid hs
    clear hs
    have f0 := hF 0 _ (by simp) rfl
    have f1 := hF 1 _ (by simp) rfl
    have f2 := hF 2 _ (by simp) rfl
    have f3 := hF 3 _ (by simp) rfl
    have f4 := hF 4 _ (by simp) rfl
    have f5 := hF 5 _ (by simp) rfl
    have f6 := hF 6 _ (by simp) rfl
    have f7 := hF 7 _ (by simp) rfl
    have f8 := hF 8 _ (by simp) rfl
    have f10 := hF 10 _ (by simp) rfl
    have f11 := hF 11 _ (by simp) rfl
    have f12 := hF 12 _ (by simp) rfl
    have f13 := hF 13 _ (by simp) rfl
    have f16 := hF 16 _ (by simp) rfl
    have f17 := hF 17 _ (by simp) rfl
    clear hF hM hL F0
    simp only [putAll, Act.put, List.setIfInBounds_toArray, List.set_cons_succ, List.set_cons_zero, hv, f0, f1, f2, f3, f4, f5, f6, f7, f8, f10, f11, f12, f13, f16, f17]
    clear f0 f1 f2 f3 f4 f5 f6 f7 f8 f10 f11 f12 f13 f16 f17 hv
    go_wp2_with fail
    refine (must_ok _).mono ?_
    rintro e w1 ⟨rfl, rfl⟩
    have hgc : x1.cell? ⟨G, 0, none⟩ = some (.int .i64 z.ck) ∧ x1.cell? ⟨G, 1, none⟩ = some (.int .i64 z.k) ∧ x1.cell? ⟨G, 2, none⟩ = some (.int .i64 z.h) ∧ x1.cell? ⟨G, 3, none⟩ = some (.int .u64 z.n) := by
      have := F1.out.get 0 rfl
      simp [World.cell?, this]
    obtain ⟨⟨q0, q1, q2, q3, q4⟩, z1, z2, z3, z4⟩ := talk_now (F1.out.get 1 rfl)
    have F2 : Hid (SF S w0 ((((x1.setCell ⟨t, 1, none⟩ (.int .i64 z.ck)).setCell ⟨t, 2, none⟩ (.int .i64 z.k)).setCell ⟨t, 3, none⟩ (.int .i64 z.h)).setCell ⟨t, 4, none⟩ (.int .u64 z.n)) p st' ((G, .cells #[.int .i64 z.ck, .int .i64 z.k, .int .i64 z.h, .int .u64 z.n] 36 (0, 0)) :: (t, talkC p z) :: L0)) :=
      Lib.hid ((((F1.out.set2 1 (.int .i64 z.ck)).set2 2 (.int .i64 z.k)).set2 3 (.int .i64 z.h)).set2 4 (.int .u64 z.n))
    go_wp2_with fail
    go_ret
    exact ⟨rfl, F2.out.sub (List.sublist_cons_self _ _)⟩
set_option maxRecDepth 100000 in
set_option maxHeartbeats 1600000 in
theorem tseal_er {S : List Nat} {w0 W : World} {p t er : Nat} {st st' : Sough.Store} {y z : Sough.Sym} {x x' : Int} {L0 : List (Nat × Obj)} (h : SF S w0 W p st ((t, talkC p y) :: L0)) (hy : y.Wf) (hx : Sough.Int64 x) (hf : Sough.symSeal st y x = (st', z, x', er)) (he : er ≠ 0) : Calls Try.prog 35 #[.pointer (some ⟨t, 0, none⟩), .int .i64 x] W fun e w' => e = .panicked (wrongP er) ∧ SF S w0 w' p st' ((t, talkC p y) :: L0) := by
  have F0 := Lib.hid h
  have HF := Lib.hid hf
  have HY := Lib.hid hy; have HX := Lib.hid hx
  clear hy hx
  have HE := Lib.hid he
  clear he
  clear h hf
  go_enter Try.func35, Try.ntmps35
  go_wp2_with fail
  refine wp_vals (n := 29) (fun k => match k with
    | 0 => some (.pointer (some ⟨t, 0, none⟩))
    | 1 => some (.pointer (some ⟨t, 0, none⟩))
    | 2 => some (.pointer (some ⟨t, 1, none⟩))
    | 3 => some (.agg #[.int .i64 y.ck, .int .i64 y.k, .int .i64 y.h, .int .u64 y.n])
    | 4 => some (.pointer (some ⟨t, 0, none⟩))
    | 5 => some (.pointer (some ⟨t, 0, none⟩))
    | 6 => some (.pointer (some ⟨t, 0, none⟩))
    | 7 => some (.pointer (some ⟨p, 0, none⟩))
    | 8 => some (.int .i64 x)
    | 10 => some (.tuple #[.agg #[.int .i64 z.ck, .int .i64 z.k, .int .i64 z.h, .int .u64 z.n], .int .i64 x', .int .i64 er])
    | 11 => some (.agg #[.int .i64 z.ck, .int .i64 z.k, .int .i64 z.h, .int .u64 z.n])
    | 12 => some (.int .i64 x')
    | 13 => some (.int .i64 er)
    | 16 => some (.int .i64 x')
    | 17 => some (.int .i64 er)
    | _ => none) (fun L v x => TalkM S w0 p st st' ((t, talkC p y) :: L0) 36 #[.int .i64 0, .int .i64 0, .int .i64 0, .int .u64 0] #[.int .i64 z.ck, .int .i64 z.k, .int .i64 z.h, .int .u64 z.n] (L 9) (L 14) (L 15) (v 14) x ∧ (L 9 = true → v 9 = .tuple #[.agg #[.int .i64 z.ck, .int .i64 z.k, .int .i64 z.h, .int .u64 z.n], .int .i64 x', .int .i64 er])) (by kernel_rfl) (by kernel_rfl) ?_ ?_ ?_ ?_
  · intro L v hL
    rw [hL 9 (by simp), hL 14 (by simp), hL 15 (by simp)]
    exact ⟨TalkM.start F0.out, fun h => absurd h (by simp)⟩
  · intro L L' v v' x hk hM
    have hM1 := hM.1
    have hM2 := hM.2
    have ec := hk 9 (by simp) rfl
    have ea := hk 14 (by simp) rfl
    rw [ec.1, ea.1, (hk 15 (by simp) rfl).1] at hM1
    exact ⟨hM1.congr (fun h => ea.2 (ea.1.trans h)), fun h => (ec.2 (ec.1.trans h)).symm.trans (hM2 (ec.1.trans h))⟩
  · refine ⟨?_, ?_, ?_, ?_, ?_, ?_, ?_, ?_, ?_, ?_, ?_, ?_, ?_, ?_, ?_, ?_, ?_, ?_, trivial⟩
    · intro L v xw hLk hW hF hbk hM
      have hM1 := hM.1
      have hM2 := hM.2
      refine ⟨wanted_none rfl, ?_⟩
      simp only [putAll, Act.put, List.setIfInBounds_toArray, List.set_cons_succ, List.set_cons_zero]
      refine vstep_pure rfl (fun q hb => ⟨rfl, hM1.later hb, by first | exact hM2 | exact fun _ => trivial⟩) ?_
      go_big_quiet_step (fail)
      exact wpQuiet_nil rfl
    · intro L v xw hLk hW hF hbk hM
      have hM1 := hM.1
      have hM2 := hM.2
      have e0 : v 0 = .pointer (some ⟨t, 0, none⟩) := hF 0 _ (by decide) rfl
      refine ⟨wanted_none rfl, ?_⟩
      simp only [putAll, Act.put, List.setIfInBounds_toArray, List.set_cons_succ, List.set_cons_zero, e0]
      refine vstep_pure rfl (fun q hb => ⟨rfl, hM1.later hb, by first | exact hM2 | exact fun _ => trivial⟩) ?_
      go_big_quiet_step (fail)
      exact wpQuiet_nil rfl
    · intro L v xw hLk hW hF hbk hM
      have hM1 := hM.1
      have hM2 := hM.2
      have e1 : v 1 = .pointer (some ⟨t, 0, none⟩) := hF 1 _ (by decide) rfl
      refine ⟨wanted_none rfl, ?_⟩
      simp only [putAll, Act.put, List.setIfInBounds_toArray, List.set_cons_succ, List.set_cons_zero, e1]
      refine vstep_pure rfl (fun q hb => ⟨rfl, hM1.later hb, by first | exact hM2 | exact fun _ => trivial⟩) ?_
      go_big_quiet_step (fail)
      exact wpQuiet_nil rfl
    · intro L v xw hLk hW hF hbk hM
      have hM1 := hM.1
      have hM2 := hM.2
      have e2 : v 2 = .pointer (some ⟨t, 1, none⟩) := hF 2 _ (by decide) rfl
      have yy := talk_cells (hM1.blk (k := t) (o := talkC p y) (by simp))
      refine ⟨wanted_none rfl, ?_⟩
      simp only [putAll, Act.put, List.setIfInBounds_toArray, List.set_cons_succ, List.set_cons_zero, e2]
      refine vstep_pure rfl (fun q hb => ⟨rfl, hM1.later hb, by first | exact hM2 | exact fun _ => trivial⟩) ?_
      go_big_quiet_step (fail)
      exact wpQuiet_nil rfl
    · intro L v xw hLk hW hF hbk hM
      have hM1 := hM.1
      have hM2 := hM.2
      refine ⟨wanted_none rfl, ?_⟩
      simp only [putAll, Act.put, List.setIfInBounds_toArray, List.set_cons_succ, List.set_cons_zero]
      refine vstep_pure rfl (fun q hb => ⟨rfl, hM1.later hb, by first | exact hM2 | exact fun _ => trivial⟩) ?_
      go_big_quiet_step (fail)
      exact wpQuiet_nil rfl
    · intro L v xw hLk hW hF hbk hM
      have hM1 := hM.1
      have hM2 := hM.2
      have e4 : v 4 = .pointer (some ⟨t, 0, none⟩) := hF 4 _ (by decide) rfl
      refine ⟨wanted_none rfl, ?_⟩
      simp only [putAll, Act.put, List.setIfInBounds_toArray, List.set_cons_succ, List.set_cons_zero, e4]
      refine vstep_pure rfl (fun q hb => ⟨rfl, hM1.later hb, by first | exact hM2 | exact fun _ => trivial⟩) ?_
      go_big_quiet_step (fail)
      exact wpQuiet_nil rfl
    · intro L v xw hLk hW hF hbk hM
      have hM1 := hM.1
      have hM2 := hM.2
      have e5 : v 5 = .pointer (some ⟨t, 0, none⟩) := hF 5 _ (by decide) rfl
      refine ⟨wanted_none rfl, ?_⟩
      simp only [putAll, Act.put, List.setIfInBounds_toArray, List.set_cons_succ, List.set_cons_zero, e5]
      refine vstep_pure rfl (fun q hb => ⟨rfl, hM1.later hb, by first | exact hM2 | exact fun _ => trivial⟩) ?_
      go_big_quiet_step (fail)
      exact wpQuiet_nil rfl
    · intro L v xw hLk hW hF hbk hM
      have hM1 := hM.1
      have hM2 := hM.2
      have e6 : v 6 = .pointer (some ⟨t, 0, none⟩) := hF 6 _ (by decide) rfl
      have yy := talk_cells (hM1.blk (k := t) (o := talkC p y) (by simp))
      refine ⟨wanted_none rfl, ?_⟩
      simp only [putAll, Act.put, List.setIfInBounds_toArray, List.set_cons_succ, List.set_cons_zero, e6]
      refine vstep_pure rfl (fun q hb => ⟨rfl, hM1.later hb, by first | exact hM2 | exact fun _ => trivial⟩) ?_
      go_big_quiet_step (fail)
      exact wpQuiet_nil rfl
    · intro L v xw hLk hW hF hbk hM
      have hM1 := hM.1
      have hM2 := hM.2
      refine ⟨wanted_none rfl, ?_⟩
      simp only [putAll, Act.put, List.setIfInBounds_toArray, List.set_cons_succ, List.set_cons_zero]
      refine vstep_pure rfl (fun q hb => ⟨rfl, hM1.later hb, by first | exact hM2 | exact fun _ => trivial⟩) ?_
      go_big_quiet_step (fail)
      exact wpQuiet_nil rfl
    · intro L v xw hLk hW hF hbk hM
      have hM1 := hM.1
      have hM2 := hM.2
      have e3 : v 3 = .agg #[.int .i64 y.ck, .int .i64 y.k, .int .i64 y.h, .int .u64 y.n] := hF 3 _ (by decide) rfl
      have e7 : v 7 = .pointer (some ⟨p, 0, none⟩) := hF 7 _ (by decide) rfl
      have e8 : v 8 = .int .i64 x := hF 8 _ (by decide) rfl
      rw [hLk] at hM1
      obtain ⟨L', hs, hnx⟩ := hM1.sf
      have CC := Lib.hid (hs.sseal HY.out HX.out HF.out)
      refine ⟨wanted_none rfl, ?_⟩
      simp only [putAll, Act.put, List.setIfInBounds_toArray, List.set_cons_succ, List.set_cons_zero, e3, e7, e8]
      refine vstep_call (fun q => SF S w0 q p st' L') (fun q hq => ⟨.tuple #[.agg #[.int .i64 z.ck, .int .i64 z.k, .int .i64 z.h, .int .u64 z.n], .int .i64 x', .int .i64 er], rfl, by simp only [Nat.zero_add, Nat.reduceAdd, Nat.reduceBEq, beq_self_eq_true, Bool.or_true, Bool.or_false, Nat.reduceEqDiff, if_true, if_false, reduceIte]; exact ⟨hnx q hq, fun _ => trivial⟩⟩) ?_
      unfold Oper.wp
      go_simp
      refine CC.out.mono ?_
      rintro e q ⟨rfl, hq⟩
      exact ⟨rfl, hq⟩
    · intro L v xw hLk hW hF hbk hM
      have hM1 := hM.1
      have hM2 := hM.2
      have e9 := hM2 (hW 9 (by decide))
      refine ⟨wanted_none rfl, ?_⟩
      simp only [putAll, Act.put, List.setIfInBounds_toArray, List.set_cons_succ, List.set_cons_zero, e9]
      refine vstep_pure rfl (fun q hb => ⟨rfl, hM1.later hb, by first | exact hM2 | exact fun _ => trivial⟩) ?_
      go_big_quiet_step (fail)
      exact wpQuiet_nil rfl
    · intro L v xw hLk hW hF hbk hM
      have hM1 := hM.1
      have hM2 := hM.2
      have e10 : v 10 = .tuple #[.agg #[.int .i64 z.ck, .int .i64 z.k, .int .i64 z.h, .int .u64 z.n], .int .i64 x', .int .i64 er] := hF 10 _ (by decide) rfl
      refine ⟨wanted_none rfl, ?_⟩
      simp only [putAll, Act.put, List.setIfInBounds_toArray, List.set_cons_succ, List.set_cons_zero, e10]
      refine vstep_pure rfl (fun q hb => ⟨rfl, hM1.later hb, by first | exact hM2 | exact fun _ => trivial⟩) ?_
      go_big_quiet_step (fail)
      exact wpQuiet_nil rfl
    · intro L v xw hLk hW hF hbk hM
      have hM1 := hM.1
      have hM2 := hM.2
      have e10 : v 10 = .tuple #[.agg #[.int .i64 z.ck, .int .i64 z.k, .int .i64 z.h, .int .u64 z.n], .int .i64 x', .int .i64 er] := hF 10 _ (by decide) rfl
      refine ⟨wanted_none rfl, ?_⟩
      simp only [putAll, Act.put, List.setIfInBounds_toArray, List.set_cons_succ, List.set_cons_zero, e10]
      refine vstep_pure rfl (fun q hb => ⟨rfl, hM1.later hb, by first | exact hM2 | exact fun _ => trivial⟩) ?_
      go_big_quiet_step (fail)
      exact wpQuiet_nil rfl
    · intro L v xw hLk hW hF hbk hM
      have hM1 := hM.1
      have hM2 := hM.2
      have e10 : v 10 = .tuple #[.agg #[.int .i64 z.ck, .int .i64 z.k, .int .i64 z.h, .int .u64 z.n], .int .i64 x', .int .i64 er] := hF 10 _ (by decide) rfl
      refine ⟨wanted_none rfl, ?_⟩
      simp only [putAll, Act.put, List.setIfInBounds_toArray, List.set_cons_succ, List.set_cons_zero, e10]
      refine vstep_pure rfl (fun q hb => ⟨rfl, hM1.later hb, by first | exact hM2 | exact fun _ => trivial⟩) ?_
      go_big_quiet_step (fail)
      exact wpQuiet_nil rfl
    · intro L v xw hLk hW hF hbk hM
      have hM1 := hM.1
      have hM2 := hM.2
      have hs : L 15 = false := by
        cases hc : L 15 with
        | false => rfl
        | true =>
          have h8 := hbk 15 14 _ rfl (by decide) hc
          rw [hLk] at h8
          cases h8
      rw [hLk, hs] at hM1
      refine ⟨wanted_none rfl, ?_⟩
      simp only [putAll, Act.put, List.setIfInBounds_toArray, List.set_cons_succ, List.set_cons_zero]
      refine vstep_one (W := xw.alloc (.cells #[.int .i64 0, .int .i64 0, .int .i64 0, .int .u64 0] 36)) ⟨.pointer (some ⟨xw.heap.size, 0, none⟩), rfl, by simp only [Nat.zero_add, Nat.reduceAdd, Nat.reduceBEq, beq_self_eq_true, Bool.or_true, Bool.or_false, Nat.reduceEqDiff, if_true, if_false, reduceIte]; rw [hs]; exact ⟨hM1.alloc, hM2⟩⟩ ?_
      unfold Oper.wp
      go_simp
    · intro L v xw hLk hW hF hbk hM
      have hM1 := hM.1
      have hM2 := hM.2
      have e11 : v 11 = .agg #[.int .i64 z.ck, .int .i64 z.k, .int .i64 z.h, .int .u64 z.n] := hF 11 _ (by decide) rfl
      have ha := hW 14 (by decide)
      rw [hLk, ha] at hM1
      obtain ⟨G, hv, hg⟩ := hM1.ptr
      have HM := Lib.hid hM1
      have c0 : xw.cell? ⟨G, 0, none⟩ = some (.int .i64 0) ∧ xw.cell? ⟨G, 1, none⟩ = some (.int .i64 0) ∧ xw.cell? ⟨G, 2, none⟩ = some (.int .i64 0) ∧ xw.cell? ⟨G, 3, none⟩ = some (.int .u64 0) ∧ xw.frozen? ⟨G, 0, none⟩ = false ∧ xw.frozen? ⟨G, 1, none⟩ = false ∧ xw.frozen? ⟨G, 2, none⟩ = false ∧ xw.frozen? ⟨G, 3, none⟩ = false := by simp [World.cell?, World.frozen?, hg]
      clear hM1 hg
      refine ⟨wanted_none rfl, ?_⟩
      simp only [putAll, Act.put, List.setIfInBounds_toArray, List.set_cons_succ, List.set_cons_zero, e11, hv]
      refine vstep_one (W := (((xw.setCell ⟨G, 0, none⟩ (.int .i64 z.ck)).setCell ⟨G, 1, none⟩ (.int .i64 z.k)).setCell ⟨G, 2, none⟩ (.int .i64 z.h)).setCell ⟨G, 3, none⟩ (.int .u64 z.n)) ⟨undef, rfl, by simp only [Nat.zero_add, Nat.reduceAdd, Nat.reduceBEq, beq_self_eq_true, Bool.or_true, Bool.or_false, Nat.reduceEqDiff, if_true, if_false, reduceIte]; rw [ha]; have := HM.out.sto hv; rw [hv] at this; exact ⟨this, hM2⟩⟩ ?_
      unfold Oper.wp
      go_simp
    · intro L v xw hLk hW hF hbk hM
      have hM1 := hM.1
      have hM2 := hM.2
      have e12 : v 12 = .int .i64 x' := hF 12 _ (by decide) rfl
      refine ⟨wanted_none rfl, ?_⟩
      simp only [putAll, Act.put, List.setIfInBounds_toArray, List.set_cons_succ, List.set_cons_zero, e12]
      refine vstep_pure rfl (fun q hb => ⟨rfl, hM1.later hb, by first | exact hM2 | exact fun _ => trivial⟩) ?_
      go_big_quiet_step (fail)
      exact wpQuiet_nil rfl
    · intro L v xw hLk hW hF hbk hM
      have hM1 := hM.1
      have hM2 := hM.2
      have e13 : v 13 = .int .i64 er := hF 13 _ (by decide) rfl
      refine ⟨wanted_none rfl, ?_⟩
      simp only [putAll, Act.put, List.setIfInBounds_toArray, List.set_cons_succ, List.set_cons_zero, e13]
      refine vstep_pure rfl (fun q hb => ⟨rfl, hM1.later hb, by first | exact hM2 | exact fun _ => trivial⟩) ?_
      go_big_quiet_step (fail)
      exact wpQuiet_nil rfl
  · intro L v x1 hL hF hM
    have hM1 := hM.1
    rw [hL 9 (by simp), hL 14 (by simp), hL 15 (by simp)] at hM1
    obtain ⟨G, hs, hv, _⟩ := hM1
    have hv := hv rfl
    have F1 : Hid (SF S w0 x1 p st' ((G, .cells #[.int .i64 z.ck, .int .i64 z.k, .int .i64 z.h, .int .u64 z.n] 36 (0, 0)) :: (t, talkC p y) :: L0)) := Lib.hid hs
    clear hs
    have f0 := hF 0 _ (by simp) rfl
    have f1 := hF 1 _ (by simp) rfl
    have f2 := hF 2 _ (by simp) rfl
    have f3 := hF 3 _ (by simp) rfl
    have f4 := hF 4 _ (by simp) rfl
    have f5 := hF 5 _ (by simp) rfl
    have f6 := hF 6 _ (by simp) rfl
    have f7 := hF 7 _ (by simp) rfl
    have f8 := hF 8 _ (by simp) rfl
    have f10 := hF 10 _ (by simp) rfl
    have f11 := hF 11 _ (by simp) rfl
    have f12 := hF 12 _ (by simp) rfl
    have f13 := hF 13 _ (by simp) rfl
    have f16 := hF 16 _ (by simp) rfl
    have f17 := hF 17 _ (by simp) rfl
    clear hF hM hL F0
    simp only [putAll, Act.put, List.setIfInBounds_toArray, List.set_cons_succ, List.set_cons_zero, hv, f0, f1, f2, f3, f4, f5, f6, f7, f8, f10, f11, f12, f13, f16, f17]
    clear f0 f1 f2 f3 f4 f5 f6 f7 f8 f10 f11 f12 f13 f16 f17 hv
    go_wp2_with fail
    refine (must_er HE.out _).mono ?_
    rintro e w1 ⟨rfl, rfl⟩
    exact ⟨rfl, rfl, F1.out.sub (List.sublist_cons_self _ _)⟩
set_option maxRecDepth 100000 in
set_option maxHeartbeats 1600000 in
theorem topen_ok {S : List Nat} {w0 W : World} {p t : Nat} {st st' : Sough.Store} {y z : Sough.Sym} {x x' : Int} {L0 : List (Nat × Obj)} (h : SF S w0 W p st ((t, talkC p y) :: L0)) (hy : y.Wf) (hx : Sough.Int64 x) (hf : Sough.symOpen st y x = (st', z, x', 0)) : Calls Try.prog 41 #[.pointer (some ⟨t, 0, none⟩), .int .i64 x] W fun e w' => e = .returned (.int .i64 x') ∧ SF S w0 w' p st' ((t, talkC p z) :: L0) := by
  have F0 := Lib.hid h
  have HF := Lib.hid hf
  have HY := Lib.hid hy; have HX := Lib.hid hx
  clear hy hx
  clear h hf
  go_enter Try.func41, Try.ntmps41
  go_wp2_with fail
  refine wp_vals (n := 29) (fun k => match k with
    | 0 => some (.pointer (some ⟨t, 0, none⟩))
    | 1 => some (.pointer (some ⟨t, 0, none⟩))
    | 2 => some (.pointer (some ⟨t, 1, none⟩))
    | 3 => some (.agg #[.int .i64 y.ck, .int .i64 y.k, .int .i64 y.h, .int .u64 y.n])
    | 4 => some (.pointer (some ⟨t, 0, none⟩))
    | 5 => some (.pointer (some ⟨t, 0, none⟩))
    | 6 => some (.pointer (some ⟨t, 0, none⟩))
    | 7 => some (.pointer (some ⟨p, 0, none⟩))
    | 8 => some (.int .i64 x)
    | 10 => some (.tuple #[.agg #[.int .i64 z.ck, .int .i64 z.k, .int .i64 z.h, .int .u64 z.n], .int .i64 x', .int .i64 0])
    | 11 => some (.agg #[.int .i64 z.ck, .int .i64 z.k, .int .i64 z.h, .int .u64 z.n])
    | 12 => some (.int .i64 x')
    | 13 => some (.int .i64 0)
    | 16 => some (.int .i64 x')
    | 17 => some (.int .i64 0)
    | _ => none) (fun L v x => TalkM S w0 p st st' ((t, talkC p y) :: L0) 36 #[.int .i64 0, .int .i64 0, .int .i64 0, .int .u64 0] #[.int .i64 z.ck, .int .i64 z.k, .int .i64 z.h, .int .u64 z.n] (L 9) (L 14) (L 15) (v 14) x ∧ (L 9 = true → v 9 = .tuple #[.agg #[.int .i64 z.ck, .int .i64 z.k, .int .i64 z.h, .int .u64 z.n], .int .i64 x', .int .i64 0])) (by kernel_rfl) (by kernel_rfl) ?_ ?_ ?_ ?_
  · intro L v hL
    rw [hL 9 (by simp), hL 14 (by simp), hL 15 (by simp)]
    exact ⟨TalkM.start F0.out, fun h => absurd h (by simp)⟩
  · intro L L' v v' x hk hM
    have hM1 := hM.1
    have hM2 := hM.2
    have ec := hk 9 (by simp) rfl
    have ea := hk 14 (by simp) rfl
    rw [ec.1, ea.1, (hk 15 (by simp) rfl).1] at hM1
    exact ⟨hM1.congr (fun h => ea.2 (ea.1.trans h)), fun h => (ec.2 (ec.1.trans h)).symm.trans (hM2 (ec.1.trans h))⟩
  · refine ⟨?_, ?_, ?_, ?_, ?_, ?_, ?_, ?_, ?_, ?_, ?_, ?_, ?_, ?_, ?_, ?_, ?_, ?_, trivial⟩
    · intro L v xw hLk hW hF hbk hM
      have hM1 := hM.1
      have hM2 := hM.2
      refine ⟨wanted_none rfl, ?_⟩
      simp only [putAll, Act.put, List.setIfInBounds_toArray, List.set_cons_succ, List.set_cons_zero]
      refine vstep_pure rfl (fun q hb => ⟨rfl, hM1.later hb, by first | exact hM2 | exact fun _ => trivial⟩) ?_
      go_big_quiet_step (fail)
      exact wpQuiet_nil rfl
    · intro L v xw hLk hW hF hbk hM
      have hM1 := hM.1
      have hM2 := hM.2
      have e0 : v 0 = .pointer (some ⟨t, 0, none⟩) := hF 0 _ (by decide) rfl
      refine ⟨wanted_none rfl, ?_⟩
      simp only [putAll, Act.put, List.setIfInBounds_toArray, List.set_cons_succ, List.set_cons_zero, e0]
      refine vstep_pure rfl (fun q hb => ⟨rfl, hM1.later hb, by first | exact hM2 | exact fun _ => trivial⟩) ?_
      go_big_quiet_step (fail)
      exact wpQuiet_nil rfl
    · intro L v xw hLk hW hF hbk hM
      have hM1 := hM.1
      have hM2 := hM.2
      have e1 : v 1 = .pointer (some ⟨t, 0, none⟩) := hF 1 _ (by decide) rfl
      refine ⟨wanted_none rfl, ?_⟩
      simp only [putAll, Act.put, List.setIfInBounds_toArray, List.set_cons_succ, List.set_cons_zero, e1]
      refine vstep_pure rfl (fun q hb => ⟨rfl, hM1.later hb, by first | exact hM2 | exact fun _ => trivial⟩) ?_
      go_big_quiet_step (fail)
      exact wpQuiet_nil rfl
    · intro L v xw hLk hW hF hbk hM
      have hM1 := hM.1
      have hM2 := hM.2
      have e2 : v 2 = .pointer (some ⟨t, 1, none⟩) := hF 2 _ (by decide) rfl
      have yy := talk_cells (hM1.blk (k := t) (o := talkC p y) (by simp))
      refine ⟨wanted_none rfl, ?_⟩
      simp only [putAll, Act.put, List.setIfInBounds_toArray, List.set_cons_succ, List.set_cons_zero, e2]
      refine vstep_pure rfl (fun q hb => ⟨rfl, hM1.later hb, by first | exact hM2 | exact fun _ => trivial⟩) ?_
      go_big_quiet_step (fail)
      exact wpQuiet_nil rfl
    · intro L v xw hLk hW hF hbk hM
      have hM1 := hM.1
      have hM2 := hM.2
      refine ⟨wanted_none rfl, ?_⟩
      simp only [putAll, Act.put, List.setIfInBounds_toArray, List.set_cons_succ, List.set_cons_zero]
      refine vstep_pure rfl (fun q hb => ⟨rfl, hM1.later hb, by first | exact hM2 | exact fun _ => trivial⟩) ?_
      go_big_quiet_step (fail)
      exact wpQuiet_nil rfl
    · intro L v xw hLk hW hF hbk hM
      have hM1 := hM.1
      have hM2 := hM.2
      have e4 : v 4 = .pointer (some ⟨t, 0, none⟩) := hF 4 _ (by decide) rfl
      refine ⟨wanted_none rfl, ?_⟩
      simp only [putAll, Act.put, List.setIfInBounds_toArray, List.set_cons_succ, List.set_cons_zero, e4]
      refine vstep_pure rfl (fun q hb => ⟨rfl, hM1.later hb, by first | exact hM2 | exact fun _ => trivial⟩) ?_
      go_big_quiet_step (fail)
      exact wpQuiet_nil rfl
    · intro L v xw hLk hW hF hbk hM
      have hM1 := hM.1
      have hM2 := hM.2
      have e5 : v 5 = .pointer (some ⟨t, 0, none⟩) := hF 5 _ (by decide) rfl
      refine ⟨wanted_none rfl, ?_⟩
      simp only [putAll, Act.put, List.setIfInBounds_toArray, List.set_cons_succ, List.set_cons_zero, e5]
      refine vstep_pure rfl (fun q hb => ⟨rfl, hM1.later hb, by first | exact hM2 | exact fun _ => trivial⟩) ?_
      go_big_quiet_step (fail)
      exact wpQuiet_nil rfl
    · intro L v xw hLk hW hF hbk hM
      have hM1 := hM.1
      have hM2 := hM.2
      have e6 : v 6 = .pointer (some ⟨t, 0, none⟩) := hF 6 _ (by decide) rfl
      have yy := talk_cells (hM1.blk (k := t) (o := talkC p y) (by simp))
      refine ⟨wanted_none rfl, ?_⟩
      simp only [putAll, Act.put, List.setIfInBounds_toArray, List.set_cons_succ, List.set_cons_zero, e6]
      refine vstep_pure rfl (fun q hb => ⟨rfl, hM1.later hb, by first | exact hM2 | exact fun _ => trivial⟩) ?_
      go_big_quiet_step (fail)
      exact wpQuiet_nil rfl
    · intro L v xw hLk hW hF hbk hM
      have hM1 := hM.1
      have hM2 := hM.2
      refine ⟨wanted_none rfl, ?_⟩
      simp only [putAll, Act.put, List.setIfInBounds_toArray, List.set_cons_succ, List.set_cons_zero]
      refine vstep_pure rfl (fun q hb => ⟨rfl, hM1.later hb, by first | exact hM2 | exact fun _ => trivial⟩) ?_
      go_big_quiet_step (fail)
      exact wpQuiet_nil rfl
    · intro L v xw hLk hW hF hbk hM
      have hM1 := hM.1
      have hM2 := hM.2
      have e3 : v 3 = .agg #[.int .i64 y.ck, .int .i64 y.k, .int .i64 y.h, .int .u64 y.n] := hF 3 _ (by decide) rfl
      have e7 : v 7 = .pointer (some ⟨p, 0, none⟩) := hF 7 _ (by decide) rfl
      have e8 : v 8 = .int .i64 x := hF 8 _ (by decide) rfl
      rw [hLk] at hM1
      obtain ⟨L', hs, hnx⟩ := hM1.sf
      have CC := Lib.hid (hs.sopen HY.out HX.out HF.out)
      refine ⟨wanted_none rfl, ?_⟩
      simp only [putAll, Act.put, List.setIfInBounds_toArray, List.set_cons_succ, List.set_cons_zero, e3, e7, e8]
      refine vstep_call (fun q => SF S w0 q p st' L') (fun q hq => ⟨.tuple #[.agg #[.int .i64 z.ck, .int .i64 z.k, .int .i64 z.h, .int .u64 z.n], .int .i64 x', .int .i64 0], rfl, by simp only [Nat.zero_add, Nat.reduceAdd, Nat.reduceBEq, beq_self_eq_true, Bool.or_true, Bool.or_false, Nat.reduceEqDiff, if_true, if_false, reduceIte]; exact ⟨hnx q hq, fun _ => trivial⟩⟩) ?_
      unfold Oper.wp
      go_simp
      refine CC.out.mono ?_
      rintro e q ⟨rfl, hq⟩
      exact ⟨rfl, hq⟩
    · intro L v xw hLk hW hF hbk hM
      have hM1 := hM.1
      have hM2 := hM.2
      have e9 := hM2 (hW 9 (by decide))
      refine ⟨wanted_none rfl, ?_⟩
      simp only [putAll, Act.put, List.setIfInBounds_toArray, List.set_cons_succ, List.set_cons_zero, e9]
      refine vstep_pure rfl (fun q hb => ⟨rfl, hM1.later hb, by first | exact hM2 | exact fun _ => trivial⟩) ?_
      go_big_quiet_step (fail)
      exact wpQuiet_nil rfl
    · intro L v xw hLk hW hF hbk hM
      have hM1 := hM.1
      have hM2 := hM.2
      have e10 : v 10 = .tuple #[.agg #[.int .i64 z.ck, .int .i64 z.k, .int .i64 z.h, .int .u64 z.n], .int .i64 x', .int .i64 0] := hF 10 _ (by decide) rfl
      refine ⟨wanted_none rfl, ?_⟩
      simp only [putAll, Act.put, List.setIfInBounds_toArray, List.set_cons_succ, List.set_cons_zero, e10]
      refine vstep_pure rfl (fun q hb => ⟨rfl, hM1.later hb, by first | exact hM2 | exact fun _ => trivial⟩) ?_
      go_big_quiet_step (fail)
      exact wpQuiet_nil rfl
    · intro L v xw hLk hW hF hbk hM
      have hM1 := hM.1
      have hM2 := hM.2
      have e10 : v 10 = .tuple #[.agg #[.int .i64 z.ck, .int .i64 z.k, .int .i64 z.h, .int .u64 z.n], .int .i64 x', .int .i64 0] := hF 10 _ (by decide) rfl
      refine ⟨wanted_none rfl, ?_⟩
      simp only [putAll, Act.put, List.setIfInBounds_toArray, List.set_cons_succ, List.set_cons_zero, e10]
      refine vstep_pure rfl (fun q hb => ⟨rfl, hM1.later hb, by first | exact hM2 | exact fun _ => trivial⟩) ?_
      go_big_quiet_step (fail)
      exact wpQuiet_nil rfl
    · intro L v xw hLk hW hF hbk hM
      have hM1 := hM.1
      have hM2 := hM.2
      have e10 : v 10 = .tuple #[.agg #[.int .i64 z.ck, .int .i64 z.k, .int .i64 z.h, .int .u64 z.n], .int .i64 x', .int .i64 0] := hF 10 _ (by decide) rfl
      refine ⟨wanted_none rfl, ?_⟩
      simp only [putAll, Act.put, List.setIfInBounds_toArray, List.set_cons_succ, List.set_cons_zero, e10]
      refine vstep_pure rfl (fun q hb => ⟨rfl, hM1.later hb, by first | exact hM2 | exact fun _ => trivial⟩) ?_
      go_big_quiet_step (fail)
      exact wpQuiet_nil rfl
    · intro L v xw hLk hW hF hbk hM
      have hM1 := hM.1
      have hM2 := hM.2
      have hs : L 15 = false := by
        cases hc : L 15 with
        | false => rfl
        | true =>
          have h8 := hbk 15 14 _ rfl (by decide) hc
          rw [hLk] at h8
          cases h8
      rw [hLk, hs] at hM1
      refine ⟨wanted_none rfl, ?_⟩
      simp only [putAll, Act.put, List.setIfInBounds_toArray, List.set_cons_succ, List.set_cons_zero]
      refine vstep_one (W := xw.alloc (.cells #[.int .i64 0, .int .i64 0, .int .i64 0, .int .u64 0] 36)) ⟨.pointer (some ⟨xw.heap.size, 0, none⟩), rfl, by simp only [Nat.zero_add, Nat.reduceAdd, Nat.reduceBEq, beq_self_eq_true, Bool.or_true, Bool.or_false, Nat.reduceEqDiff, if_true, if_false, reduceIte]; rw [hs]; exact ⟨hM1.alloc, hM2⟩⟩ ?_
      unfold Oper.wp
      go_simp
    · intro L v xw hLk hW hF hbk hM
      have hM1 := hM.1
      have hM2 := hM.2
      have e11 : v 11 = .agg #[.int .i64 z.ck, .int .i64 z.k, .int .i64 z.h, .int .u64 z.n] := hF 11 _ (by decide) rfl
      have ha := hW 14 (by decide)
      rw [hLk, ha] at hM1
      obtain ⟨G, hv, hg⟩ := hM1.ptr
      have HM := Lib.hid hM1
      have c0 : xw.cell? ⟨G, 0, none⟩ = some (.int .i64 0) ∧ xw.cell? ⟨G, 1, none⟩ = some (.int .i64 0) ∧ xw.cell? ⟨G, 2, none⟩ = some (.int .i64 0) ∧ xw.cell? ⟨G, 3, none⟩ = some (.int .u64 0) ∧ xw.frozen? ⟨G, 0, none⟩ = false ∧ xw.frozen? ⟨G, 1, none⟩ = false ∧ xw.frozen? ⟨G, 2, none⟩ = false ∧ xw.frozen? ⟨G, 3, none⟩ = false := by simp [World.cell?, World.frozen?, hg]
      clear hM1 hg
      refine ⟨wanted_none rfl, ?_⟩
      simp only [putAll, Act.put, List.setIfInBounds_toArray, List.set_cons_succ, List.set_cons_zero, e11, hv]
      refine vstep_one (W := (((xw.setCell ⟨G, 0, none⟩ (.int .i64 z.ck)).setCell ⟨G, 1, none⟩ (.int .i64 z.k)).setCell ⟨G, 2, none⟩ (.int .i64 z.h)).setCell ⟨G, 3, none⟩ (.int .u64 z.n)) ⟨undef, rfl, by simp only [Nat.zero_add, Nat.reduceAdd, Nat.reduceBEq, beq_self_eq_true, Bool.or_true, Bool.or_false, Nat.reduceEqDiff, if_true, if_false, reduceIte]; rw [ha]; have := HM.out.sto hv; rw [hv] at this; exact ⟨this, hM2⟩⟩ ?_
      unfold Oper.wp
      go_simp
    · intro L v xw hLk hW hF hbk hM
      have hM1 := hM.1
      have hM2 := hM.2
      have e12 : v 12 = .int .i64 x' := hF 12 _ (by decide) rfl
      refine ⟨wanted_none rfl, ?_⟩
      simp only [putAll, Act.put, List.setIfInBounds_toArray, List.set_cons_succ, List.set_cons_zero, e12]
      refine vstep_pure rfl (fun q hb => ⟨rfl, hM1.later hb, by first | exact hM2 | exact fun _ => trivial⟩) ?_
      go_big_quiet_step (fail)
      exact wpQuiet_nil rfl
    · intro L v xw hLk hW hF hbk hM
      have hM1 := hM.1
      have hM2 := hM.2
      have e13 : v 13 = .int .i64 0 := hF 13 _ (by decide) rfl
      refine ⟨wanted_none rfl, ?_⟩
      simp only [putAll, Act.put, List.setIfInBounds_toArray, List.set_cons_succ, List.set_cons_zero, e13]
      refine vstep_pure rfl (fun q hb => ⟨rfl, hM1.later hb, by first | exact hM2 | exact fun _ => trivial⟩) ?_
      go_big_quiet_step (fail)
      exact wpQuiet_nil rfl
  · intro L v x1 hL hF hM
    have hM1 := hM.1
    rw [hL 9 (by simp), hL 14 (by simp), hL 15 (by simp)] at hM1
    obtain ⟨G, hs, hv, _⟩ := hM1
    have hv := hv rfl
    have F1 : Hid (SF S w0 x1 p st' ((G, .cells #[.int .i64 z.ck, .int .i64 z.k, .int .i64 z.h, .int .u64 z.n] 36 (0, 0)) :: (t, talkC p y) :: L0)) := Lib.hid hs
    clear hs
    have f0 := hF 0 _ (by simp) rfl
    have f1 := hF 1 _ (by simp) rfl
    have f2 := hF 2 _ (by simp) rfl
    have f3 := hF 3 _ (by simp) rfl
    have f4 := hF 4 _ (by simp) rfl
    have f5 := hF 5 _ (by simp) rfl
    have f6 := hF 6 _ (by simp) rfl
    have f7 := hF 7 _ (by simp) rfl
    have f8 := hF 8 _ (by simp) rfl
    have f10 := hF 10 _ (by simp) rfl
    have f11 := hF 11 _ (by simp) rfl
    have f12 := hF 12 _ (by simp) rfl
    have f13 := hF 13 _ (by simp) rfl
    have f16 := hF 16 _ (by simp) rfl
    have f17 := hF 17 _ (by simp) rfl
    clear hF hM hL F0
    simp only [putAll, Act.put, List.setIfInBounds_toArray, List.set_cons_succ, List.set_cons_zero, hv, f0, f1, f2, f3, f4, f5, f6, f7, f8, f10, f11, f12, f13, f16, f17]
    clear f0 f1 f2 f3 f4 f5 f6 f7 f8 f10 f11 f12 f13 f16 f17 hv
    go_wp2_with fail
    refine (must_ok _).mono ?_
    rintro e w1 ⟨rfl, rfl⟩
    have hgc : x1.cell? ⟨G, 0, none⟩ = some (.int .i64 z.ck) ∧ x1.cell? ⟨G, 1, none⟩ = some (.int .i64 z.k) ∧ x1.cell? ⟨G, 2, none⟩ = some (.int .i64 z.h) ∧ x1.cell? ⟨G, 3, none⟩ = some (.int .u64 z.n) := by
      have := F1.out.get 0 rfl
      simp [World.cell?, this]
    obtain ⟨⟨q0, q1, q2, q3, q4⟩, z1, z2, z3, z4⟩ := talk_now (F1.out.get 1 rfl)
    have F2 : Hid (SF S w0 ((((x1.setCell ⟨t, 1, none⟩ (.int .i64 z.ck)).setCell ⟨t, 2, none⟩ (.int .i64 z.k)).setCell ⟨t, 3, none⟩ (.int .i64 z.h)).setCell ⟨t, 4, none⟩ (.int .u64 z.n)) p st' ((G, .cells #[.int .i64 z.ck, .int .i64 z.k, .int .i64 z.h, .int .u64 z.n] 36 (0, 0)) :: (t, talkC p z) :: L0)) :=
      Lib.hid ((((F1.out.set2 1 (.int .i64 z.ck)).set2 2 (.int .i64 z.k)).set2 3 (.int .i64 z.h)).set2 4 (.int .u64 z.n))
    go_wp2_with fail
    go_ret
    exact ⟨rfl, F2.out.sub (List.sublist_cons_self _ _)⟩
set_option maxRecDepth 100000 in
set_option maxHeartbeats 1600000 in
theorem topen_er {S : List Nat} {w0 W : World} {p t er : Nat} {st st' : Sough.Store} {y z : Sough.Sym} {x x' : Int} {L0 : List (Nat × Obj)} (h : SF S w0 W p st ((t, talkC p y) :: L0)) (hy : y.Wf) (hx : Sough.Int64 x) (hf : Sough.symOpen st y x = (st', z, x', er)) (he : er ≠ 0) : Calls Try.prog 41 #[.pointer (some ⟨t, 0, none⟩), .int .i64 x] W fun e w' => e = .panicked (wrongP er) ∧ SF S w0 w' p st' ((t, talkC p y) :: L0) := by
  have F0 := Lib.hid h
  have HF := Lib.hid hf
  have HY := Lib.hid hy; have HX := Lib.hid hx
  clear hy hx
  have HE := Lib.hid he
  clear he
  clear h hf
  go_enter Try.func41, Try.ntmps41
  go_wp2_with fail
  refine wp_vals (n := 29) (fun k => match k with
    | 0 => some (.pointer (some ⟨t, 0, none⟩))
    | 1 => some (.pointer (some ⟨t, 0, none⟩))
    | 2 => some (.pointer (some ⟨t, 1, none⟩))
    | 3 => some (.agg #[.int .i64 y.ck, .int .i64 y.k, .int .i64 y.h, .int .u64 y.n])
    | 4 => some (.pointer (some ⟨t, 0, none⟩))
    | 5 => some (.pointer (some ⟨t, 0, none⟩))
    | 6 => some (.pointer (some ⟨t, 0, none⟩))
    | 7 => some (.pointer (some ⟨p, 0, none⟩))
    | 8 => some (.int .i64 x)
    | 10 => some (.tuple #[.agg #[.int .i64 z.ck, .int .i64 z.k, .int .i64 z.h, .int .u64 z.n], .int .i64 x', .int .i64 er])
    | 11 => some (.agg #[.int .i64 z.ck, .int .i64 z.k, .int .i64 z.h, .int .u64 z.n])
    | 12 => some (.int .i64 x')
    | 13 => some (.int .i64 er)
    | 16 => some (.int .i64 x')
    | 17 => some (.int .i64 er)
    | _ => none) (fun L v x => TalkM S w0 p st st' ((t, talkC p y) :: L0) 36 #[.int .i64 0, .int .i64 0, .int .i64 0, .int .u64 0] #[.int .i64 z.ck, .int .i64 z.k, .int .i64 z.h, .int .u64 z.n] (L 9) (L 14) (L 15) (v 14) x ∧ (L 9 = true → v 9 = .tuple #[.agg #[.int .i64 z.ck, .int .i64 z.k, .int .i64 z.h, .int .u64 z.n], .int .i64 x', .int .i64 er])) (by kernel_rfl) (by kernel_rfl) ?_ ?_ ?_ ?_
  · intro L v hL
    rw [hL 9 (by simp), hL 14 (by simp), hL 15 (by simp)]
    exact ⟨TalkM.start F0.out, fun h => absurd h (by simp)⟩
  · intro L L' v v' x hk hM
    have hM1 := hM.1
    have hM2 := hM.2
    have ec := hk 9 (by simp) rfl
    have ea := hk 14 (by simp) rfl
    rw [ec.1, ea.1, (hk 15 (by simp) rfl).1] at hM1
    exact ⟨hM1.congr (fun h => ea.2 (ea.1.trans h)), fun h => (ec.2 (ec.1.trans h)).symm.trans (hM2 (ec.1.trans h))⟩
  · refine ⟨?_, ?_, ?_, ?_, ?_, ?_, ?_, ?_, ?_, ?_, ?_, ?_, ?_, ?_, ?_, ?_, ?_, ?_, trivial⟩
    · intro L v xw hLk hW hF hbk hM
      have hM1 := hM.1
      have hM2 := hM.2
      refine ⟨wanted_none rfl, ?_⟩
      simp only [putAll, Act.put, List.setIfInBounds_toArray, List.set_cons_succ, List.set_cons_zero]
      refine vstep_pure rfl (fun q hb => ⟨rfl, hM1.later hb, by first | exact hM2 | exact fun _ => trivial⟩) ?_
      go_big_quiet_step (fail)
      exact wpQuiet_nil rfl
    · intro L v xw hLk hW hF hbk hM
      have hM1 := hM.1
      have hM2 := hM.2
      have e0 : v 0 = .pointer (some ⟨t, 0, none⟩) := hF 0 _ (by decide) rfl
      refine ⟨wanted_none rfl, ?_⟩
      simp only [putAll, Act.put, List.setIfInBounds_toArray, List.set_cons_succ, List.set_cons_zero, e0]
      refine vstep_pure rfl (fun q hb => ⟨rfl, hM1.later hb, by first | exact hM2 | exact fun _ => trivial⟩) ?_
      go_big_quiet_step (fail)
      exact wpQuiet_nil rfl
    · intro L v xw hLk hW hF hbk hM
      have hM1 := hM.1
      have hM2 := hM.2
      have e1 : v 1 = .pointer (some ⟨t, 0, none⟩) := hF 1 _ (by decide) rfl
      refine ⟨wanted_none rfl, ?_⟩
      simp only [putAll, Act.put, List.setIfInBounds_toArray, List.set_cons_succ, List.set_cons_zero, e1]
      refine vstep_pure rfl (fun q hb => ⟨rfl, hM1.later hb, by first | exact hM2 | exact fun _ => trivial⟩) ?_
      go_big_quiet_step (fail)
      exact wpQuiet_nil rfl
    · intro L v xw hLk hW hF hbk hM
      have hM1 := hM.1
      have hM2 := hM.2
      have e2 : v 2 = .pointer (some ⟨t, 1, none⟩) := hF 2 _ (by decide) rfl
      have yy := talk_cells (hM1.blk (k := t) (o := talkC p y) (by simp))
      refine ⟨wanted_none rfl, ?_⟩
      simp only [putAll, Act.put, List.setIfInBounds_toArray, List.set_cons_succ, List.set_cons_zero, e2]
      refine vstep_pure rfl (fun q hb => ⟨rfl, hM1.later hb, by first | exact hM2 | exact fun _ => trivial⟩) ?_
      go_big_quiet_step (fail)
      exact wpQuiet_nil rfl
    · intro L v xw hLk hW hF hbk hM
      have hM1 := hM.1
      have hM2 := hM.2
      refine ⟨wanted_none rfl, ?_⟩
      simp only [putAll, Act.put, List.setIfInBounds_toArray, List.set_cons_succ, List.set_cons_zero]
      refine vstep_pure rfl (fun q hb => ⟨rfl, hM1.later hb, by first | exact hM2 | exact fun _ => trivial⟩) ?_
      go_big_quiet_step (fail)
      exact wpQuiet_nil rfl
    · intro L v xw hLk hW hF hbk hM
      have hM1 := hM.1
      have hM2 := hM.2
      have e4 : v 4 = .pointer (some ⟨t, 0, none⟩) := hF 4 _ (by decide) rfl
      refine ⟨wanted_none rfl, ?_⟩
      simp only [putAll, Act.put, List.setIfInBounds_toArray, List.set_cons_succ, List.set_cons_zero, e4]
      refine vstep_pure rfl (fun q hb => ⟨rfl, hM1.later hb, by first | exact hM2 | exact fun _ => trivial⟩) ?_
      go_big_quiet_step (fail)
      exact wpQuiet_nil rfl
    · intro L v xw hLk hW hF hbk hM
      have hM1 := hM.1
      have hM2 := hM.2
      have e5 : v 5 = .pointer (some ⟨t, 0, none⟩) := hF 5 _ (by decide) rfl
      refine ⟨wanted_none rfl, ?_⟩
      simp only [putAll, Act.put, List.setIfInBounds_toArray, List.set_cons_succ, List.set_cons_zero, e5]
      refine vstep_pure rfl (fun q hb => ⟨rfl, hM1.later hb, by first | exact hM2 | exact fun _ => trivial⟩) ?_
      go_big_quiet_step (fail)
      exact wpQuiet_nil rfl
    · intro L v xw hLk hW hF hbk hM
      have hM1 := hM.1
      have hM2 := hM.2
      have e6 : v 6 = .pointer (some ⟨t, 0, none⟩) := hF 6 _ (by decide) rfl
      have yy := talk_cells (hM1.blk (k := t) (o := talkC p y) (by simp))
      refine ⟨wanted_none rfl, ?_⟩
      simp only [putAll, Act.put, List.setIfInBounds_toArray, List.set_cons_succ, List.set_cons_zero, e6]
      refine vstep_pure rfl (fun q hb => ⟨rfl, hM1.later hb, by first | exact hM2 | exact fun _ => trivial⟩) ?_
      go_big_quiet_step (fail)
      exact wpQuiet_nil rfl
    · intro L v xw hLk hW hF hbk hM
      have hM1 := hM.1
      have hM2 := hM.2
      refine ⟨wanted_none rfl, ?_⟩
      simp only [putAll, Act.put, List.setIfInBounds_toArray, List.set_cons_succ, List.set_cons_zero]
      refine vstep_pure rfl (fun q hb => ⟨rfl, hM1.later hb, by first | exact hM2 | exact fun _ => trivial⟩) ?_
      go_big_quiet_step (fail)
      exact wpQuiet_nil rfl
    · intro L v xw hLk hW hF hbk hM
      have hM1 := hM.1
      have hM2 := hM.2
      have e3 : v 3 = .agg #[.int .i64 y.ck, .int .i64 y.k, .int .i64 y.h, .int .u64 y.n] := hF 3 _ (by decide) rfl
      have e7 : v 7 = .pointer (some ⟨p, 0, none⟩) := hF 7 _ (by decide) rfl
      have e8 : v 8 = .int .i64 x := hF 8 _ (by decide) rfl
      rw [hLk] at hM1
      obtain ⟨L', hs, hnx⟩ := hM1.sf
      have CC := Lib.hid (hs.sopen HY.out HX.out HF.out)
      refine ⟨wanted_none rfl, ?_⟩
      simp only [putAll, Act.put, List.setIfInBounds_toArray, List.set_cons_succ, List.set_cons_zero, e3, e7, e8]
      refine vstep_call (fun q => SF S w0 q p st' L') (fun q hq => ⟨.tuple #[.agg #[.int .i64 z.ck, .int .i64 z.k, .int .i64 z.h, .int .u64 z.n], .int .i64 x', .int .i64 er], rfl, by simp only [Nat.zero_add, Nat.reduceAdd, Nat.reduceBEq, beq_self_eq_true, Bool.or_true, Bool.or_false, Nat.reduceEqDiff, if_true, if_false, reduceIte]; exact ⟨hnx q hq, fun _ => trivial⟩⟩) ?_
      unfold Oper.wp
      go_simp
      refine CC.out.mono ?_
      rintro e q ⟨rfl, hq⟩
      exact ⟨rfl, hq⟩
    · intro L v xw hLk hW hF hbk hM
      have hM1 := hM.1
      have hM2 := hM.2
      have e9 := hM2 (hW 9 (by decide))
      refine ⟨wanted_none rfl, ?_⟩
      simp only [putAll, Act.put, List.setIfInBounds_toArray, List.set_cons_succ, List.set_cons_zero, e9]
      refine vstep_pure rfl (fun q hb => ⟨rfl, hM1.later hb, by first | exact hM2 | exact fun _ => trivial⟩) ?_
      go_big_quiet_step (fail)
      exact wpQuiet_nil rfl
    · intro L v xw hLk hW hF hbk hM
      have hM1 := hM.1
      have hM2 := hM.2
      have e10 : v 10 = .tuple #[.agg #[.int .i64 z.ck, .int .i64 z.k, .int .i64 z.h, .int .u64 z.n], .int .i64 x', .int .i64 er] := hF 10 _ (by decide) rfl
      refine ⟨wanted_none rfl, ?_⟩
      simp only [putAll, Act.put, List.setIfInBounds_toArray, List.set_cons_succ, List.set_cons_zero, e10]
      refine vstep_pure rfl (fun q hb => ⟨rfl, hM1.later hb, by first | exact hM2 | exact fun _ => trivial⟩) ?_
      go_big_quiet_step (fail)
      exact wpQuiet_nil rfl
    · intro L v xw hLk hW hF hbk hM
      have hM1 := hM.1
      have hM2 := hM.2
      have e10 : v 10 = .tuple #[.agg #[.int .i64 z.ck, .int .i64 z.k, .int .i64 z.h, .int .u64 z.n], .int .i64 x', .int .i64 er] := hF 10 _ (by decide) rfl
      refine ⟨wanted_none rfl, ?_⟩
      simp only [putAll, Act.put, List.setIfInBounds_toArray, List.set_cons_succ, List.set_cons_zero, e10]
      refine vstep_pure rfl (fun q hb => ⟨rfl, hM1.later hb, by first | exact hM2 | exact fun _ => trivial⟩) ?_
      go_big_quiet_step (fail)
      exact wpQuiet_nil rfl
    · intro L v xw hLk hW hF hbk hM
      have hM1 := hM.1
      have hM2 := hM.2
      have e10 : v 10 = .tuple #[.agg #[.int .i64 z.ck, .int .i64 z.k, .int .i64 z.h, .int .u64 z.n], .int .i64 x', .int .i64 er] := hF 10 _ (by decide) rfl
      refine ⟨wanted_none rfl, ?_⟩
      simp only [putAll, Act.put, List.setIfInBounds_toArray, List.set_cons_succ, List.set_cons_zero, e10]
      refine vstep_pure rfl (fun q hb => ⟨rfl, hM1.later hb, by first | exact hM2 | exact fun _ => trivial⟩) ?_
      go_big_quiet_step (fail)
      exact wpQuiet_nil rfl
    · intro L v xw hLk hW hF hbk hM
      have hM1 := hM.1
      have hM2 := hM.2
      have hs : L 15 = false := by
        cases hc : L 15 with
        | false => rfl
        | true =>
          have h8 := hbk 15 14 _ rfl (by decide) hc
          rw [hLk] at h8
          cases h8
      rw [hLk, hs] at hM1
      refine ⟨wanted_none rfl, ?_⟩
      simp only [putAll, Act.put, List.setIfInBounds_toArray, List.set_cons_succ, List.set_cons_zero]
      refine vstep_one (W := xw.alloc (.cells #[.int .i64 0, .int .i64 0, .int .i64 0, .int .u64 0] 36)) ⟨.pointer (some ⟨xw.heap.size, 0, none⟩), rfl, by simp only [Nat.zero_add, Nat.reduceAdd, Nat.reduceBEq, beq_self_eq_true, Bool.or_true, Bool.or_false, Nat.reduceEqDiff, if_true, if_false, reduceIte]; rw [hs]; exact ⟨hM1.alloc, hM2⟩⟩ ?_
      unfold Oper.wp
      go_simp
    · intro L v xw hLk hW hF hbk hM
      have hM1 := hM.1
      have hM2 := hM.2
      have e11 : v 11 = .agg #[.int .i64 z.ck, .int .i64 z.k, .int .i64 z.h, .int .u64 z.n] := hF 11 _ (by decide) rfl
      have ha := hW 14 (by decide)
      rw [hLk, ha] at hM1
      obtain ⟨G, hv, hg⟩ := hM1.ptr
      have HM := Lib.hid hM1
      have c0 : xw.cell? ⟨G, 0, none⟩ = some (.int .i64 0) ∧ xw.cell? ⟨G, 1, none⟩ = some (.int .i64 0) ∧ xw.cell? ⟨G, 2, none⟩ = some (.int .i64 0) ∧ xw.cell? ⟨G, 3, none⟩ = some (.int .u64 0) ∧ xw.frozen? ⟨G, 0, none⟩ = false ∧ xw.frozen? ⟨G, 1, none⟩ = false ∧ xw.frozen? ⟨G, 2, none⟩ = false ∧ xw.frozen? ⟨G, 3, none⟩ = false := by simp [World.cell?, World.frozen?, hg]
      clear hM1 hg
      refine ⟨wanted_none rfl, ?_⟩
      simp only [putAll, Act.put, List.setIfInBounds_toArray, List.set_cons_succ, List.set_cons_zero, e11, hv]
      refine vstep_one (W := (((xw.setCell ⟨G, 0, none⟩ (.int .i64 z.ck)).setCell ⟨G, 1, none⟩ (.int .i64 z.k)).setCell ⟨G, 2, none⟩ (.int .i64 z.h)).setCell ⟨G, 3, none⟩ (.int .u64 z.n)) ⟨undef, rfl, by simp only [Nat.zero_add, Nat.reduceAdd, Nat.reduceBEq, beq_self_eq_true, Bool.or_true, Bool.or_false, Nat.reduceEqDiff, if_true, if_false, reduceIte]; rw [ha]; have := HM.out.sto hv; rw [hv] at this; exact ⟨this, hM2⟩⟩ ?_
      unfold Oper.wp
      go_simp
    · intro L v xw hLk hW hF hbk hM
      have hM1 := hM.1
      have hM2 := hM.2
      have e12 : v 12 = .int .i64 x' := hF 12 _ (by decide) rfl
      refine ⟨wanted_none rfl, ?_⟩
      simp only [putAll, Act.put, List.setIfInBounds_toArray, List.set_cons_succ, List.set_cons_zero, e12]
      refine vstep_pure rfl (fun q hb => ⟨rfl, hM1.later hb, by first | exact hM2 | exact fun _ => trivial⟩) ?_
      go_big_quiet_step (fail)
      exact wpQuiet_nil rfl
    · intro L v xw hLk hW hF hbk hM
      have hM1 := hM.1
      have hM2 := hM.2
      have e13 : v 13 = .int .i64 er := hF 13 _ (by decide) rfl
      refine ⟨wanted_none rfl, ?_⟩
      simp only [putAll, Act.put, List.setIfInBounds_toArray, List.set_cons_succ, List.set_cons_zero, e13]
      refine vstep_pure rfl (fun q hb => ⟨rfl, hM1.later hb, by first | exact hM2 | exact fun _ => trivial⟩) ?_
      go_big_quiet_step (fail)
      exact wpQuiet_nil rfl
  · intro L v x1 hL hF hM
    have hM1 := hM.1
    rw [hL 9 (by simp), hL 14 (by simp), hL 15 (by simp)] at hM1
    obtain ⟨G, hs, hv, _⟩ := hM1
    have hv := hv rfl
    have F1 : Hid (SF S w0 x1 p st' ((G, .cells #[.int .i64 z.ck, .int .i64 z.k, .int .i64 z.h, .int .u64 z.n] 36 (0, 0)) :: (t, talkC p y) :: L0)) := Lib.hid hs
    clear hs
    have f0 := hF 0 _ (by simp) rfl
    have f1 := hF 1 _ (by simp) rfl
    have f2 := hF 2 _ (by simp) rfl
    have f3 := hF 3 _ (by simp) rfl
    have f4 := hF 4 _ (by simp) rfl
    have f5 := hF 5 _ (by simp) rfl
    have f6 := hF 6 _ (by simp) rfl
    have f7 := hF 7 _ (by simp) rfl
    have f8 := hF 8 _ (by simp) rfl
    have f10 := hF 10 _ (by simp) rfl
    have f11 := hF 11 _ (by simp) rfl
    have f12 := hF 12 _ (by simp) rfl
    have f13 := hF 13 _ (by simp) rfl
    have f16 := hF 16 _ (by simp) rfl
    have f17 := hF 17 _ (by simp) rfl
    clear hF hM hL F0
    simp only [putAll, Act.put, List.setIfInBounds_toArray, List.set_cons_succ, List.set_cons_zero, hv, f0, f1, f2, f3, f4, f5, f6, f7, f8, f10, f11, f12, f13, f16, f17]
    clear f0 f1 f2 f3 f4 f5 f6 f7 f8 f10 f11 f12 f13 f16 f17 hv
    go_wp2_with fail
    refine (must_er HE.out _).mono ?_
    rintro e w1 ⟨rfl, rfl⟩
    exact ⟨rfl, rfl, F1.out.sub (List.sublist_cons_self _ _)⟩
set_option maxRecDepth 100000 in
set_option maxHeartbeats 1600000 in
theorem tsplit_ok {S : List Nat} {w0 W : World} {p t : Nat} {st st' : Sough.Store} {y : Sough.Sym} {a b : Nat} {L0 : List (Nat × Obj)} (h : SF S w0 W p st ((t, talkC p y) :: L0)) (hy : y.Wf) (hf : Sough.symSplit st y = (st', a, b, 0)) : Calls Try.prog 45 #[.pointer (some ⟨t, 0, none⟩)] W fun e w' => e = .returned (.tuple #[.int .i64 a, .int .i64 b]) ∧ SF S w0 w' p st' ((t, talkC p y) :: L0) := by
  have F0 := Lib.hid h
  have HF := Lib.hid hf
  have HY := Lib.hid hy
  clear hy
  clear h hf
  go_enter Try.func45, Try.ntmps45
  go_wp2_with fail
  refine wp_vals (n := 24) (fun k => match k with
    | 0 => some (.pointer (some ⟨t, 0, none⟩))
    | 1 => some (.pointer (some ⟨t, 0, none⟩))
    | 2 => some (.pointer (some ⟨t, 1, none⟩))
    | 3 => some (.agg #[.int .i64 y.ck, .int .i64 y.k, .int .i64 y.h, .int .u64 y.n])
    | 4 => some (.pointer (some ⟨t, 0, none⟩))
    | 5 => some (.pointer (some ⟨t, 0, none⟩))
    | 6 => some (.pointer (some ⟨t, 0, none⟩))
    | 7 => some (.pointer (some ⟨p, 0, none⟩))
    | 9 => some (.tuple #[.int .i64 a, .int .i64 b, .int .i64 0])
    | 10 => some (.int .i64 a)
    | 11 => some (.int .i64 b)
    | 12 => some (.int .i64 0)
    | 13 => some (.int .i64 a)
    | 14 => some (.int .i64 b)
    | 15 => some (.int .i64 0)
    | _ => none) (fun L v x => TalkM S w0 p st st' ((t, talkC p y) :: L0) 36 #[.int .i64 0, .int .i64 0, .int .i64 0, .int .u64 0] #[.int .i64 0, .int .i64 0, .int .i64 0, .int .u64 0] (L 8) (false) (false) (undef) x ∧ (L 8 = true → v 8 = .tuple #[.int .i64 a, .int .i64 b, .int .i64 0])) (by kernel_rfl) (by kernel_rfl) ?_ ?_ ?_ ?_
  · intro L v hL
    rw [hL 8 (by simp)]
    exact ⟨TalkM.start F0.out, fun h => absurd h (by simp)⟩
  · intro L L' v v' x hk hM
    have hM1 := hM.1
    have hM2 := hM.2
    have ec := hk 8 (by simp) rfl
    rw [ec.1] at hM1
    exact ⟨hM1, fun h => (ec.2 (ec.1.trans h)).symm.trans (hM2 (ec.1.trans h))⟩
  · refine ⟨?_, ?_, ?_, ?_, ?_, ?_, ?_, ?_, ?_, ?_, ?_, ?_, ?_, ?_, ?_, ?_, trivial⟩
    · intro L v xw hLk hW hF hbk hM
      have hM1 := hM.1
      have hM2 := hM.2
      refine ⟨wanted_none rfl, ?_⟩
      simp only [putAll, Act.put, List.setIfInBounds_toArray, List.set_cons_succ, List.set_cons_zero]
      refine vstep_pure rfl (fun q hb => ⟨rfl, hM1.later hb, by first | exact hM2 | exact fun _ => trivial⟩) ?_
      go_big_quiet_step (fail)
      exact wpQuiet_nil rfl
    · intro L v xw hLk hW hF hbk hM
      have hM1 := hM.1
      have hM2 := hM.2
      have e0 : v 0 = .pointer (some ⟨t, 0, none⟩) := hF 0 _ (by decide) rfl
      refine ⟨wanted_none rfl, ?_⟩
      simp only [putAll, Act.put, List.setIfInBounds_toArray, List.set_cons_succ, List.set_cons_zero, e0]
      refine vstep_pure rfl (fun q hb => ⟨rfl, hM1.later hb, by first | exact hM2 | exact fun _ => trivial⟩) ?_
      go_big_quiet_step (fail)
      exact wpQuiet_nil rfl
    · intro L v xw hLk hW hF hbk hM
      have hM1 := hM.1
      have hM2 := hM.2
      have e1 : v 1 = .pointer (some ⟨t, 0, none⟩) := hF 1 _ (by decide) rfl
      refine ⟨wanted_none rfl, ?_⟩
      simp only [putAll, Act.put, List.setIfInBounds_toArray, List.set_cons_succ, List.set_cons_zero, e1]
      refine vstep_pure rfl (fun q hb => ⟨rfl, hM1.later hb, by first | exact hM2 | exact fun _ => trivial⟩) ?_
      go_big_quiet_step (fail)
      exact wpQuiet_nil rfl
    · intro L v xw hLk hW hF hbk hM
      have hM1 := hM.1
      have hM2 := hM.2
      have e2 : v 2 = .pointer (some ⟨t, 1, none⟩) := hF 2 _ (by decide) rfl
      have yy := talk_cells (hM1.blk (k := t) (o := talkC p y) (by simp))
      refine ⟨wanted_none rfl, ?_⟩
      simp only [putAll, Act.put, List.setIfInBounds_toArray, List.set_cons_succ, List.set_cons_zero, e2]
      refine vstep_pure rfl (fun q hb => ⟨rfl, hM1.later hb, by first | exact hM2 | exact fun _ => trivial⟩) ?_
      go_big_quiet_step (fail)
      exact wpQuiet_nil rfl
    · intro L v xw hLk hW hF hbk hM
      have hM1 := hM.1
      have hM2 := hM.2
      refine ⟨wanted_none rfl, ?_⟩
      simp only [putAll, Act.put, List.setIfInBounds_toArray, List.set_cons_succ, List.set_cons_zero]
      refine vstep_pure rfl (fun q hb => ⟨rfl, hM1.later hb, by first | exact hM2 | exact fun _ => trivial⟩) ?_
      go_big_quiet_step (fail)
      exact wpQuiet_nil rfl
    · intro L v xw hLk hW hF hbk hM
      have hM1 := hM.1
      have hM2 := hM.2
      have e4 : v 4 = .pointer (some ⟨t, 0, none⟩) := hF 4 _ (by decide) rfl
      refine ⟨wanted_none rfl, ?_⟩
      simp only [putAll, Act.put, List.setIfInBounds_toArray, List.set_cons_succ, List.set_cons_zero, e4]
      refine vstep_pure rfl (fun q hb => ⟨rfl, hM1.later hb, by first | exact hM2 | exact fun _ => trivial⟩) ?_
      go_big_quiet_step (fail)
      exact wpQuiet_nil rfl
    · intro L v xw hLk hW hF hbk hM
      have hM1 := hM.1
      have hM2 := hM.2
      have e5 : v 5 = .pointer (some ⟨t, 0, none⟩) := hF 5 _ (by decide) rfl
      refine ⟨wanted_none rfl, ?_⟩
      simp only [putAll, Act.put, List.setIfInBounds_toArray, List.set_cons_succ, List.set_cons_zero, e5]
      refine vstep_pure rfl (fun q hb => ⟨rfl, hM1.later hb, by first | exact hM2 | exact fun _ => trivial⟩) ?_
      go_big_quiet_step (fail)
      exact wpQuiet_nil rfl
    · intro L v xw hLk hW hF hbk hM
      have hM1 := hM.1
      have hM2 := hM.2
      have e6 : v 6 = .pointer (some ⟨t, 0, none⟩) := hF 6 _ (by decide) rfl
      have yy := talk_cells (hM1.blk (k := t) (o := talkC p y) (by simp))
      refine ⟨wanted_none rfl, ?_⟩
      simp only [putAll, Act.put, List.setIfInBounds_toArray, List.set_cons_succ, List.set_cons_zero, e6]
      refine vstep_pure rfl (fun q hb => ⟨rfl, hM1.later hb, by first | exact hM2 | exact fun _ => trivial⟩) ?_
      go_big_quiet_step (fail)
      exact wpQuiet_nil rfl
    · intro L v xw hLk hW hF hbk hM
      have hM1 := hM.1
      have hM2 := hM.2
      have e3 : v 3 = .agg #[.int .i64 y.ck, .int .i64 y.k, .int .i64 y.h, .int .u64 y.n] := hF 3 _ (by decide) rfl
      have e7 : v 7 = .pointer (some ⟨p, 0, none⟩) := hF 7 _ (by decide) rfl
      rw [hLk] at hM1
      obtain ⟨L', hs, hnx⟩ := hM1.sf
      have CC := Lib.hid (hs.ssplit HY.out HF.out)
      refine ⟨wanted_none rfl, ?_⟩
      simp only [putAll, Act.put, List.setIfInBounds_toArray, List.set_cons_succ, List.set_cons_zero, e3, e7]
      refine vstep_call (fun q => SF S w0 q p st' L') (fun q hq => ⟨.tuple #[.int .i64 a, .int .i64 b, .int .i64 0], rfl, by simp only [Nat.zero_add, Nat.reduceAdd, Nat.reduceBEq, beq_self_eq_true, Bool.or_true, Bool.or_false, Nat.reduceEqDiff, if_true, if_false, reduceIte]; exact ⟨hnx q hq, fun _ => trivial⟩⟩) ?_
      unfold Oper.wp
      go_simp
      refine CC.out.mono ?_
      rintro e q ⟨rfl, hq⟩
      exact ⟨rfl, hq⟩
    · intro L v xw hLk hW hF hbk hM
      have hM1 := hM.1
      have hM2 := hM.2
      have e8 := hM2 (hW 8 (by decide))
      refine ⟨wanted_none rfl, ?_⟩
      simp only [putAll, Act.put, List.setIfInBounds_toArray, List.set_cons_succ, List.set_cons_zero, e8]
      refine vstep_pure rfl (fun q hb => ⟨rfl, hM1.later hb, by first | exact hM2 | exact fun _ => trivial⟩) ?_
      go_big_quiet_step (fail)
      exact wpQuiet_nil rfl
    · intro L v xw hLk hW hF hbk hM
      have hM1 := hM.1
      have hM2 := hM.2
      have e9 : v 9 = .tuple #[.int .i64 a, .int .i64 b, .int .i64 0] := hF 9 _ (by decide) rfl
      refine ⟨wanted_none rfl, ?_⟩
      simp only [putAll, Act.put, List.setIfInBounds_toArray, List.set_cons_succ, List.set_cons_zero, e9]
      refine vstep_pure rfl (fun q hb => ⟨rfl, hM1.later hb, by first | exact hM2 | exact fun _ => trivial⟩) ?_
      go_big_quiet_step (fail)
      exact wpQuiet_nil rfl
    · intro L v xw hLk hW hF hbk hM
      have hM1 := hM.1
      have hM2 := hM.2
      have e9 : v 9 = .tuple #[.int .i64 a, .int .i64 b, .int .i64 0] := hF 9 _ (by decide) rfl
      refine ⟨wanted_none rfl, ?_⟩
      simp only [putAll, Act.put, List.setIfInBounds_toArray, List.set_cons_succ, List.set_cons_zero, e9]
      refine vstep_pure rfl (fun q hb => ⟨rfl, hM1.later hb, by first | exact hM2 | exact fun _ => trivial⟩) ?_
      go_big_quiet_step (fail)
      exact wpQuiet_nil rfl
    · intro L v xw hLk hW hF hbk hM
      have hM1 := hM.1
      have hM2 := hM.2
      have e9 : v 9 = .tuple #[.int .i64 a, .int .i64 b, .int .i64 0] := hF 9 _ (by decide) rfl
      refine ⟨wanted_none rfl, ?_⟩
      simp only [putAll, Act.put, List.setIfInBounds_toArray, List.set_cons_succ, List.set_cons_zero, e9]
      refine vstep_pure rfl (fun q hb => ⟨rfl, hM1.later hb, by first | exact hM2 | exact fun _ => trivial⟩) ?_
      go_big_quiet_step (fail)
      exact wpQuiet_nil rfl
    · intro L v xw hLk hW hF hbk hM
      have hM1 := hM.1
      have hM2 := hM.2
      have e10 : v 10 = .int .i64 a := hF 10 _ (by decide) rfl
      refine ⟨wanted_none rfl, ?_⟩
      simp only [putAll, Act.put, List.setIfInBounds_toArray, List.set_cons_succ, List.set_cons_zero, e10]
      refine vstep_pure rfl (fun q hb => ⟨rfl, hM1.later hb, by first | exact hM2 | exact fun _ => trivial⟩) ?_
      go_big_quiet_step (fail)
      exact wpQuiet_nil rfl
    · intro L v xw hLk hW hF hbk hM
      have hM1 := hM.1
      have hM2 := hM.2
      have e11 : v 11 = .int .i64 b := hF 11 _ (by decide) rfl
      refine ⟨wanted_none rfl, ?_⟩
      simp only [putAll, Act.put, List.setIfInBounds_toArray, List.set_cons_succ, List.set_cons_zero, e11]
      refine vstep_pure rfl (fun q hb => ⟨rfl, hM1.later hb, by first | exact hM2 | exact fun _ => trivial⟩) ?_
      go_big_quiet_step (fail)
      exact wpQuiet_nil rfl
    · intro L v xw hLk hW hF hbk hM
      have hM1 := hM.1
      have hM2 := hM.2
      have e12 : v 12 = .int .i64 0 := hF 12 _ (by decide) rfl
      refine ⟨wanted_none rfl, ?_⟩
      simp only [putAll, Act.put, List.setIfInBounds_toArray, List.set_cons_succ, List.set_cons_zero, e12]
      refine vstep_pure rfl (fun q hb => ⟨rfl, hM1.later hb, by first | exact hM2 | exact fun _ => trivial⟩) ?_
      go_big_quiet_step (fail)
      exact wpQuiet_nil rfl
  · intro L v x1 hL hF hM
    have hM1 := hM.1
    rw [hL 8 (by simp)] at hM1
    obtain ⟨_, hs, _, _⟩ := hM1
    have F1 : Hid (SF S w0 x1 p st' ((t, talkC p y) :: L0)) := Lib.hid hs
    clear hs
    have f0 := hF 0 _ (by simp) rfl
    have f1 := hF 1 _ (by simp) rfl
    have f2 := hF 2 _ (by simp) rfl
    have f3 := hF 3 _ (by simp) rfl
    have f4 := hF 4 _ (by simp) rfl
    have f5 := hF 5 _ (by simp) rfl
    have f6 := hF 6 _ (by simp) rfl
    have f7 := hF 7 _ (by simp) rfl
    have f9 := hF 9 _ (by simp) rfl
    have f10 := hF 10 _ (by simp) rfl
    have f11 := hF 11 _ (by simp) rfl
    have f12 := hF 12 _ (by simp) rfl
    have f13 := hF 13 _ (by simp) rfl
    have f14 := hF 14 _ (by simp) rfl
    have f15 := hF 15 _ (by simp) rfl
    clear hF hM hL F0
    simp only [putAll, Act.put, List.setIfInBounds_toArray, List.set_cons_succ, List.set_cons_zero, f0, f1, f2, f3, f4, f5, f6, f7, f9, f10, f11, f12, f13, f14, f15]
    clear f0 f1 f2 f3 f4 f5 f6 f7 f9 f10 f11 f12 f13 f14 f15
    go_wp2_with fail
    refine (must_ok _).mono ?_
    rintro e w1 ⟨rfl, rfl⟩
    go_wp2_with fail
    go_ret2
    exact ⟨rfl, F1.out⟩
set_option maxRecDepth 100000 in
set_option maxHeartbeats 1600000 in
theorem tsplit_er {S : List Nat} {w0 W : World} {p t er : Nat} {st st' : Sough.Store} {y : Sough.Sym} {a b : Nat} {L0 : List (Nat × Obj)} (h : SF S w0 W p st ((t, talkC p y) :: L0)) (hy : y.Wf) (hf : Sough.symSplit st y = (st', a, b, er)) (he : er ≠ 0) : Calls Try.prog 45 #[.pointer (some ⟨t, 0, none⟩)] W fun e w' => e = .panicked (wrongP er) ∧ SF S w0 w' p st' ((t, talkC p y) :: L0) := by
  have F0 := Lib.hid h
  have HF := Lib.hid hf
  have HY := Lib.hid hy
  clear hy
  have HE := Lib.hid he
  clear he
  clear h hf
  go_enter Try.func45, Try.ntmps45
  go_wp2_with fail
  refine wp_vals (n := 24) (fun k => match k with
    | 0 => some (.pointer (some ⟨t, 0, none⟩))
    | 1 => some (.pointer (some ⟨t, 0, none⟩))
    | 2 => some (.pointer (some ⟨t, 1, none⟩))
    | 3 => some (.agg #[.int .i64 y.ck, .int .i64 y.k, .int .i64 y.h, .int .u64 y.n])
    | 4 => some (.pointer (some ⟨t, 0, none⟩))
    | 5 => some (.pointer (some ⟨t, 0, none⟩))
    | 6 => some (.pointer (some ⟨t, 0, none⟩))
    | 7 => some (.pointer (some ⟨p, 0, none⟩))
    | 9 => some (.tuple #[.int .i64 a, .int .i64 b, .int .i64 er])
    | 10 => some (.int .i64 a)
    | 11 => some (.int .i64 b)
    | 12 => some (.int .i64 er)
    | 13 => some (.int .i64 a)
    | 14 => some (.int .i64 b)
    | 15 => some (.int .i64 er)
    | _ => none) (fun L v x => TalkM S w0 p st st' ((t, talkC p y) :: L0) 36 #[.int .i64 0, .int .i64 0, .int .i64 0, .int .u64 0] #[.int .i64 0, .int .i64 0, .int .i64 0, .int .u64 0] (L 8) (false) (false) (undef) x ∧ (L 8 = true → v 8 = .tuple #[.int .i64 a, .int .i64 b, .int .i64 er])) (by kernel_rfl) (by kernel_rfl) ?_ ?_ ?_ ?_
  · intro L v hL
    rw [hL 8 (by simp)]
    exact ⟨TalkM.start F0.out, fun h => absurd h (by simp)⟩
  · intro L L' v v' x hk hM
    have hM1 := hM.1
    have hM2 := hM.2
    have ec := hk 8 (by simp) rfl
    rw [ec.1] at hM1
    exact ⟨hM1, fun h => (ec.2 (ec.1.trans h)).symm.trans (hM2 (ec.1.trans h))⟩
  · refine ⟨?_, ?_, ?_, ?_, ?_, ?_, ?_, ?_, ?_, ?_, ?_, ?_, ?_, ?_, ?_, ?_, trivial⟩
    · intro L v xw hLk hW hF hbk hM
      have hM1 := hM.1
      have hM2 := hM.2
      refine ⟨wanted_none rfl, ?_⟩
      simp only [putAll, Act.put, List.setIfInBounds_toArray, List.set_cons_succ, List.set_cons_zero]
      refine vstep_pure rfl (fun q hb => ⟨rfl, hM1.later hb, by first | exact hM2 | exact fun _ => trivial⟩) ?_
      go_big_quiet_step (fail)
      exact wpQuiet_nil rfl
    · intro L v xw hLk hW hF hbk hM
      have hM1 := hM.1
      have hM2 := hM.2
      have e0 : v 0 = .pointer (some ⟨t, 0, none⟩) := hF 0 _ (by decide) rfl
      refine ⟨wanted_none rfl, ?_⟩
      simp only [putAll, Act.put, List.setIfInBounds_toArray, List.set_cons_succ, List.set_cons_zero, e0]
      refine vstep_pure rfl (fun q hb => ⟨rfl, hM1.later hb, by first | exact hM2 | exact fun _ => trivial⟩) ?_
      go_big_quiet_step (fail)
      exact wpQuiet_nil rfl
    · intro L v xw hLk hW hF hbk hM
      have hM1 := hM.1
      have hM2 := hM.2
      have e1 : v 1 = .pointer (some ⟨t, 0, none⟩) := hF 1 _ (by decide) rfl
      refine ⟨wanted_none rfl, ?_⟩
      simp only [putAll, Act.put, List.setIfInBounds_toArray, List.set_cons_succ, List.set_cons_zero, e1]
      refine vstep_pure rfl (fun q hb => ⟨rfl, hM1.later hb, by first | exact hM2 | exact fun _ => trivial⟩) ?_
      go_big_quiet_step (fail)
      exact wpQuiet_nil rfl
    · intro L v xw hLk hW hF hbk hM
      have hM1 := hM.1
      have hM2 := hM.2
      have e2 : v 2 = .pointer (some ⟨t, 1, none⟩) := hF 2 _ (by decide) rfl
      have yy := talk_cells (hM1.blk (k := t) (o := talkC p y) (by simp))
      refine ⟨wanted_none rfl, ?_⟩
      simp only [putAll, Act.put, List.setIfInBounds_toArray, List.set_cons_succ, List.set_cons_zero, e2]
      refine vstep_pure rfl (fun q hb => ⟨rfl, hM1.later hb, by first | exact hM2 | exact fun _ => trivial⟩) ?_
      go_big_quiet_step (fail)
      exact wpQuiet_nil rfl
    · intro L v xw hLk hW hF hbk hM
      have hM1 := hM.1
      have hM2 := hM.2
      refine ⟨wanted_none rfl, ?_⟩
      simp only [putAll, Act.put, List.setIfInBounds_toArray, List.set_cons_succ, List.set_cons_zero]
      refine vstep_pure rfl (fun q hb => ⟨rfl, hM1.later hb, by first | exact hM2 | exact fun _ => trivial⟩) ?_
      go_big_quiet_step (fail)
      exact wpQuiet_nil rfl
    · intro L v xw hLk hW hF hbk hM
      have hM1 := hM.1
      have hM2 := hM.2
      have e4 : v 4 = .pointer (some ⟨t, 0, none⟩) := hF 4 _ (by decide) rfl
      refine ⟨wanted_none rfl, ?_⟩
      simp only [putAll, Act.put, List.setIfInBounds_toArray, List.set_cons_succ, List.set_cons_zero, e4]
      refine vstep_pure rfl (fun q hb => ⟨rfl, hM1.later hb, by first | exact hM2 | exact fun _ => trivial⟩) ?_
      go_big_quiet_step (fail)
      exact wpQuiet_nil rfl
    · intro L v xw hLk hW hF hbk hM
      have hM1 := hM.1
      have hM2 := hM.2
      have e5 : v 5 = .pointer (some ⟨t, 0, none⟩) := hF 5 _ (by decide) rfl
      refine ⟨wanted_none rfl, ?_⟩
      simp only [putAll, Act.put, List.setIfInBounds_toArray, List.set_cons_succ, List.set_cons_zero, e5]
      refine vstep_pure rfl (fun q hb => ⟨rfl, hM1.later hb, by first | exact hM2 | exact fun _ => trivial⟩) ?_
      go_big_quiet_step (fail)
      exact wpQuiet_nil rfl
    · intro L v xw hLk hW hF hbk hM
      have hM1 := hM.1
      have hM2 := hM.2
      have e6 : v 6 = .pointer (some ⟨t, 0, none⟩) := hF 6 _ (by decide) rfl
      have yy := talk_cells (hM1.blk (k := t) (o := talkC p y) (by simp))
      refine ⟨wanted_none rfl, ?_⟩
      simp only [putAll, Act.put, List.setIfInBounds_toArray, List.set_cons_succ, List.set_cons_zero, e6]
      refine vstep_pure rfl (fun q hb => ⟨rfl, hM1.later hb, by first | exact hM2 | exact fun _ => trivial⟩) ?_
      go_big_quiet_step (fail)
      exact wpQuiet_nil rfl
    · intro L v xw hLk hW hF hbk hM
      have hM1 := hM.1
      have hM2 := hM.2
      have e3 : v 3 = .agg #[.int .i64 y.ck, .int .i64 y.k, .int .i64 y.h, .int .u64 y.n] := hF 3 _ (by decide) rfl
      have e7 : v 7 = .pointer (some ⟨p, 0, none⟩) := hF 7 _ (by decide) rfl
      rw [hLk] at hM1
      obtain ⟨L', hs, hnx⟩ := hM1.sf
      have CC := Lib.hid (hs.ssplit HY.out HF.out)
      refine ⟨wanted_none rfl, ?_⟩
      simp only [putAll, Act.put, List.setIfInBounds_toArray, List.set_cons_succ, List.set_cons_zero, e3, e7]
      refine vstep_call (fun q => SF S w0 q p st' L') (fun q hq => ⟨.tuple #[.int .i64 a, .int .i64 b, .int .i64 er], rfl, by simp only [Nat.zero_add, Nat.reduceAdd, Nat.reduceBEq, beq_self_eq_true, Bool.or_true, Bool.or_false, Nat.reduceEqDiff, if_true, if_false, reduceIte]; exact ⟨hnx q hq, fun _ => trivial⟩⟩) ?_
      unfold Oper.wp
      go_simp
      refine CC.out.mono ?_
      rintro e q ⟨rfl, hq⟩
      exact ⟨rfl, hq⟩
    · intro L v xw hLk hW hF hbk hM
      have hM1 := hM.1
      have hM2 := hM.2
      have e8 := hM2 (hW 8 (by decide))
      refine ⟨wanted_none rfl, ?_⟩
      simp only [putAll, Act.put, List.setIfInBounds_toArray, List.set_cons_succ, List.set_cons_zero, e8]
      refine vstep_pure rfl (fun q hb => ⟨rfl, hM1.later hb, by first | exact hM2 | exact fun _ => trivial⟩) ?_
      go_big_quiet_step (fail)
      exact wpQuiet_nil rfl
    · intro L v xw hLk hW hF hbk hM
      have hM1 := hM.1
      have hM2 := hM.2
      have e9 : v 9 = .tuple #[.int .i64 a, .int .i64 b, .int .i64 er] := hF 9 _ (by decide) rfl
      refine ⟨wanted_none rfl, ?_⟩
      simp only [putAll, Act.put, List.setIfInBounds_toArray, List.set_cons_succ, List.set_cons_zero, e9]
      refine vstep_pure rfl (fun q hb => ⟨rfl, hM1.later hb, by first | exact hM2 | exact fun _ => trivial⟩) ?_
      go_big_quiet_step (fail)
      exact wpQuiet_nil rfl
    · intro L v xw hLk hW hF hbk hM
      have hM1 := hM.1
      have hM2 := hM.2
      have e9 : v 9 = .tuple #[.int .i64 a, .int .i64 b, .int .i64 er] := hF 9 _ (by decide) rfl
      refine ⟨wanted_none rfl, ?_⟩
      simp only [putAll, Act.put, List.setIfInBounds_toArray, List.set_cons_succ, List.set_cons_zero, e9]
      refine vstep_pure rfl (fun q hb => ⟨rfl, hM1.later hb, by first | exact hM2 | exact fun _ => trivial⟩) ?_
      go_big_quiet_step (fail)
      exact wpQuiet_nil rfl
    · intro L v xw hLk hW hF hbk hM
      have hM1 := hM.1
      have hM2 := hM.2
      have e9 : v 9 = .tuple #[.int .i64 a, .int .i64 b, .int .i64 er] := hF 9 _ (by decide) rfl
      refine ⟨wanted_none rfl, ?_⟩
      simp only [putAll, Act.put, List.setIfInBounds_toArray, List.set_cons_succ, List.set_cons_zero, e9]
      refine vstep_pure rfl (fun q hb => ⟨rfl, hM1.later hb, by first | exact hM2 | exact fun _ => trivial⟩) ?_
      go_big_quiet_step (fail)
      exact wpQuiet_nil rfl
    · intro L v xw hLk hW hF hbk hM
      have hM1 := hM.1
      have hM2 := hM.2
      have e10 : v 10 = .int .i64 a := hF 10 _ (by decide) rfl
      refine ⟨wanted_none rfl, ?_⟩
      simp only [putAll, Act.put, List.setIfInBounds_toArray, List.set_cons_succ, List.set_cons_zero, e10]
      refine vstep_pure rfl (fun q hb => ⟨rfl, hM1.later hb, by first | exact hM2 | exact fun _ => trivial⟩) ?_
      go_big_quiet_step (fail)
      exact wpQuiet_nil rfl
    · intro L v xw hLk hW hF hbk hM
      have hM1 := hM.1
      have hM2 := hM.2
      have e11 : v 11 = .int .i64 b := hF 11 _ (by decide) rfl
      refine ⟨wanted_none rfl, ?_⟩
      simp only [putAll, Act.put, List.setIfInBounds_toArray, List.set_cons_succ, List.set_cons_zero, e11]
      refine vstep_pure rfl (fun q hb => ⟨rfl, hM1.later hb, by first | exact hM2 | exact fun _ => trivial⟩) ?_
      go_big_quiet_step (fail)
      exact wpQuiet_nil rfl
    · intro L v xw hLk hW hF hbk hM
      have hM1 := hM.1
      have hM2 := hM.2
      have e12 : v 12 = .int .i64 er := hF 12 _ (by decide) rfl
      refine ⟨wanted_none rfl, ?_⟩
      simp only [putAll, Act.put, List.setIfInBounds_toArray, List.set_cons_succ, List.set_cons_zero, e12]
      refine vstep_pure rfl (fun q hb => ⟨rfl, hM1.later hb, by first | exact hM2 | exact fun _ => trivial⟩) ?_
      go_big_quiet_step (fail)
      exact wpQuiet_nil rfl
  · intro L v x1 hL hF hM
    have hM1 := hM.1
    rw [hL 8 (by simp)] at hM1
    obtain ⟨_, hs, _, _⟩ := hM1
    have F1 : Hid (SF S w0 x1 p st' ((t, talkC p y) :: L0)) := Lib.hid hs
    clear hs
    have f0 := hF 0 _ (by simp) rfl
    have f1 := hF 1 _ (by simp) rfl
    have f2 := hF 2 _ (by simp) rfl
    have f3 := hF 3 _ (by simp) rfl
    have f4 := hF 4 _ (by simp) rfl
    have f5 := hF 5 _ (by simp) rfl
    have f6 := hF 6 _ (by simp) rfl
    have f7 := hF 7 _ (by simp) rfl
    have f9 := hF 9 _ (by simp) rfl
    have f10 := hF 10 _ (by simp) rfl
    have f11 := hF 11 _ (by simp) rfl
    have f12 := hF 12 _ (by simp) rfl
    have f13 := hF 13 _ (by simp) rfl
    have f14 := hF 14 _ (by simp) rfl
    have f15 := hF 15 _ (by simp) rfl
    clear hF hM hL F0
    simp only [putAll, Act.put, List.setIfInBounds_toArray, List.set_cons_succ, List.set_cons_zero, f0, f1, f2, f3, f4, f5, f6, f7, f9, f10, f11, f12, f13, f14, f15]
    clear f0 f1 f2 f3 f4 f5 f6 f7 f9 f10 f11 f12 f13 f14 f15
    go_wp2_with fail
    refine (must_er HE.out _).mono ?_
    rintro e w1 ⟨rfl, rfl⟩
    exact ⟨rfl, rfl, F1.out⟩
end Go.Proofs.Ytlfgempjjoclbaa
namespace Sough
theorem public_ok {st : Store} {x : Int} (h : st.Ok) (hx : Int64 x) : (dhPublic st x).1.Ok := h.put (wf_of (by omega) (by simp) (by omega) hx i64_zero i64_zero)
theorem wrapping_ok {st : Store} {x : Int} (h : st.Ok) (hx : Int64 x) : (kemPublic st x).1.Ok := h.put (wf_of (by omega) (by simp) (by omega) hx i64_zero i64_zero)
theorem agree_ok {st : Store} {x q : Int} (h : st.Ok) (hx : Int64 x) : (dhAgree st x q).1.Ok := by
  unfold dhAgree
  have ha : Int64 (st.at q).a := (at_wf h q).a
  split
  · exact h
  · split
    · exact h.put (wf_of (by omega) (by simp) (by omega) ha hx i64_zero)
    · exact h.put (wf_of (by omega) (by simp) (by omega) hx ha i64_zero)
theorem kopen_ok {st : Store} {x q : Int} (h : st.Ok) (hx : Int64 x) : (kemOpen st x q).1.Ok := by
  unfold kemOpen
  split
  · exact h
  · split
    · exact h
    · exact h.put (wf_of (by omega) (by simp) (by omega) hx (at_wf h q).b i64_zero)
theorem kwrap_ok {st : Store} {q d : Int} (h : st.Ok) (hd : Int64 d) : (kemWrap st q d).1.Ok := by
  unfold kemWrap
  split
  · exact h
  · exact put2_ok h (wf_of (by omega) (by simp) (by omega) (at_wf h q).a hd i64_zero) (wf_of (by omega) (by simp) (by omega) (at_wf h q).a hd i64_zero)
theorem kwrap_names {st : Store} {q d : Int} (h : st.Ok) (hd : Int64 d) : Int64 (kemWrap st q d).2.1 ∧ Int64 (kemWrap st q d).2.2.1 := by
  unfold kemWrap
  split
  · exact ⟨i64_nat (Nat.zero_le _), i64_nat (Nat.zero_le _)⟩
  · exact put2_names h (wf_of (by omega) (by simp) (by omega) (at_wf h q).a hd i64_zero)
end Sough
namespace Go.Proofs.Ytlfgempjjoclbaa
open Go.RowKit Go.Maps Go.ChangeMaps
section
variable {S : List Nat} {w0 W : World} {p : Nat} {st st' : Sough.Store} {L : List (Nat × Obj)}
theorem SF.public {x : Int} {n er : Nat} (h : SF S w0 W p st L) (hx : Sough.Int64 x) (hf : Sough.dhPublic st x = (st', n, er)) : Calls Try.prog 54 #[.pointer (some ⟨p, 0, none⟩), .int .i64 x] W fun e w' => e = .returned (.tuple #[.int .i64 n, .int .i64 er]) ∧ SF S w0 w' p st' L :=
  h.call (by have := Sough.public_ok h.ok hx; rw [hf] at this; exact this) fun S1 hs => public_any W hs h.ok hx hf
theorem SF.wrapping {x : Int} {n er : Nat} (h : SF S w0 W p st L) (hx : Sough.Int64 x) (hf : Sough.kemPublic st x = (st', n, er)) : Calls Try.prog 56 #[.pointer (some ⟨p, 0, none⟩), .int .i64 x] W fun e w' => e = .returned (.tuple #[.int .i64 n, .int .i64 er]) ∧ SF S w0 w' p st' L :=
  h.call (by have := Sough.wrapping_ok h.ok hx; rw [hf] at this; exact this) fun S1 hs => wrapping_any W hs h.ok hx hf
theorem SF.agree {x q : Int} {n er : Nat} (h : SF S w0 W p st L) (hx : Sough.Int64 x) (hf : Sough.dhAgree st x q = (st', n, er)) : Calls Try.prog 58 #[.pointer (some ⟨p, 0, none⟩), .int .i64 x, .int .i64 q] W fun e w' => e = .returned (.tuple #[.int .i64 n, .int .i64 er]) ∧ SF S w0 w' p st' L :=
  h.call (by have := Sough.agree_ok (q := q) h.ok hx; rw [hf] at this; exact this) fun S1 hs => agree_any W hs h.ok hx hf
theorem SF.kopen {x q : Int} {n er : Nat} (h : SF S w0 W p st L) (hx : Sough.Int64 x) (hf : Sough.kemOpen st x q = (st', n, er)) : Calls Try.prog 66 #[.pointer (some ⟨p, 0, none⟩), .int .i64 x, .int .i64 q] W fun e w' => e = .returned (.tuple #[.int .i64 n, .int .i64 er]) ∧ SF S w0 w' p st' L :=
  h.call (by have := Sough.kopen_ok (q := q) h.ok hx; rw [hf] at this; exact this) fun S1 hs => kopen_any W hs h.ok hx hf
theorem SF.kwrap {q d : Int} {a b er : Nat} (h : SF S w0 W p st L) (hx : Sough.Int64 d) (hf : Sough.kemWrap st q d = (st', a, b, er)) : Calls Try.prog 59 #[.pointer (some ⟨p, 0, none⟩), .int .i64 q, .int .i64 d] W fun e w' => e = .returned (.tuple #[.int .i64 a, .int .i64 b, .int .i64 er]) ∧ SF S w0 w' p st' L :=
  h.call (by have := Sough.kwrap_ok (q := q) h.ok hx; rw [hf] at this; exact this) fun S1 hs => wrap_any W hs h.ok hx hf
end
set_option maxRecDepth 100000 in
set_option maxHeartbeats 400000 in
theorem ttext_ok {S : List Nat} {w0 W : World} {p t n : Nat} {st st' : Sough.Store} {y : Sough.Sym} {L0 : List (Nat × Obj)} {s : List UInt8} (h : SF S w0 W p st ((t, talkC p y) :: L0)) (hs : s.length ≤ 9223372036854775807) (hf : st.putText s = (st', n, 0)) : Calls Try.prog 36 #[.pointer (some ⟨t, 0, none⟩), .string ⟨s.toArray⟩] W fun e w' => e = .returned (.int .i64 n) ∧ SF S w0 w' p st' ((t, talkC p y) :: L0) := by
  have CC := Lib.hid (h.put (t := ⟨1, s, 0, 0, 0, 0⟩) (Sough.wf_of (by omega) hs (by omega) Sough.i64_zero Sough.i64_zero Sough.i64_zero) hf)
  have F0 := Lib.hid h
  obtain ⟨⟨q0, _⟩, _⟩ := talk_now (h.get 0 rfl)
  clear h hf
  go_enter Try.func36, Try.ntmps36
  go_wp2_with fail
  refine CC.out.mono ?_
  rintro e w1 ⟨rfl, h1⟩
  have F1 := Lib.hid h1
  clear h1 F0 CC q0
  go_wp2_with fail
  refine (must_ok _).mono ?_
  rintro e w2 ⟨rfl, rfl⟩
  go_wp2_with fail
  go_ret
  exact ⟨rfl, F1.out⟩
set_option maxRecDepth 100000 in
set_option maxHeartbeats 400000 in
theorem ttext_er {S : List Nat} {w0 W : World} {p t n er : Nat} {st st' : Sough.Store} {y : Sough.Sym} {L0 : List (Nat × Obj)} {s : List UInt8} (h : SF S w0 W p st ((t, talkC p y) :: L0)) (hs : s.length ≤ 9223372036854775807) (hf : st.putText s = (st', n, er)) (he : er ≠ 0) : Calls Try.prog 36 #[.pointer (some ⟨t, 0, none⟩), .string ⟨s.toArray⟩] W fun e w' => e = .panicked (wrongP er) ∧ SF S w0 w' p st' ((t, talkC p y) :: L0) := by
  have CC := Lib.hid (h.put (t := ⟨1, s, 0, 0, 0, 0⟩) (Sough.wf_of (by omega) hs (by omega) Sough.i64_zero Sough.i64_zero Sough.i64_zero) hf)
  have HE := Lib.hid he
  clear he
  have F0 := Lib.hid h
  obtain ⟨⟨q0, _⟩, _⟩ := talk_now (h.get 0 rfl)
  clear h hf
  go_enter Try.func36, Try.ntmps36
  go_wp2_with fail
  refine CC.out.mono ?_
  rintro e w1 ⟨rfl, h1⟩
  have F1 := Lib.hid h1
  clear h1 F0 CC q0
  go_wp2_with fail
  refine (must_er HE.out _).mono ?_
  rintro e w2 ⟨rfl, rfl⟩
  exact ⟨rfl, rfl, F1.out⟩
set_option maxRecDepth 100000 in
set_option maxHeartbeats 400000 in
theorem tpublic_ok {S : List Nat} {w0 W : World} {p t n : Nat} {st st' : Sough.Store} {y : Sough.Sym} {L0 : List (Nat × Obj)} {x : Int} (h : SF S w0 W p st ((t, talkC p y) :: L0)) (hx : Sough.Int64 x) (hf : Sough.dhPublic st x = (st', n, 0)) : Calls Try.prog 29 #[.pointer (some ⟨t, 0, none⟩), .int .i64 x] W fun e w' => e = .returned (.int .i64 n) ∧ SF S w0 w' p st' ((t, talkC p y) :: L0) := by
  have CC := Lib.hid (h.public hx hf)
  have F0 := Lib.hid h
  obtain ⟨⟨q0, _⟩, _⟩ := talk_now (h.get 0 rfl)
  clear h hf
  go_enter Try.func29, Try.ntmps29
  go_wp2_with fail
  refine CC.out.mono ?_
  rintro e w1 ⟨rfl, h1⟩
  have F1 := Lib.hid h1
  clear h1 F0 CC q0
  go_wp2_with fail
  refine (must_ok _).mono ?_
  rintro e w2 ⟨rfl, rfl⟩
  go_wp2_with fail
  go_ret
  exact ⟨rfl, F1.out⟩
set_option maxRecDepth 100000 in
set_option maxHeartbeats 400000 in
theorem tpublic_er {S : List Nat} {w0 W : World} {p t n er : Nat} {st st' : Sough.Store} {y : Sough.Sym} {L0 : List (Nat × Obj)} {x : Int} (h : SF S w0 W p st ((t, talkC p y) :: L0)) (hx : Sough.Int64 x) (hf : Sough.dhPublic st x = (st', n, er)) (he : er ≠ 0) : Calls Try.prog 29 #[.pointer (some ⟨t, 0, none⟩), .int .i64 x] W fun e w' => e = .panicked (wrongP er) ∧ SF S w0 w' p st' ((t, talkC p y) :: L0) := by
  have CC := Lib.hid (h.public hx hf)
  have HE := Lib.hid he
  clear he
  have F0 := Lib.hid h
  obtain ⟨⟨q0, _⟩, _⟩ := talk_now (h.get 0 rfl)
  clear h hf
  go_enter Try.func29, Try.ntmps29
  go_wp2_with fail
  refine CC.out.mono ?_
  rintro e w1 ⟨rfl, h1⟩
  have F1 := Lib.hid h1
  clear h1 F0 CC q0
  go_wp2_with fail
  refine (must_er HE.out _).mono ?_
  rintro e w2 ⟨rfl, rfl⟩
  exact ⟨rfl, rfl, F1.out⟩
set_option maxRecDepth 100000 in
set_option maxHeartbeats 400000 in
theorem twrapping_ok {S : List Nat} {w0 W : World} {p t n : Nat} {st st' : Sough.Store} {y : Sough.Sym} {L0 : List (Nat × Obj)} {x : Int} (h : SF S w0 W p st ((t, talkC p y) :: L0)) (hx : Sough.Int64 x) (hf : Sough.kemPublic st x = (st', n, 0)) : Calls Try.prog 31 #[.pointer (some ⟨t, 0, none⟩), .int .i64 x] W fun e w' => e = .returned (.int .i64 n) ∧ SF S w0 w' p st' ((t, talkC p y) :: L0) := by
  have CC := Lib.hid (h.wrapping hx hf)
  have F0 := Lib.hid h
  obtain ⟨⟨q0, _⟩, _⟩ := talk_now (h.get 0 rfl)
  clear h hf
  go_enter Try.func31, Try.ntmps31
  go_wp2_with fail
  refine CC.out.mono ?_
  rintro e w1 ⟨rfl, h1⟩
  have F1 := Lib.hid h1
  clear h1 F0 CC q0
  go_wp2_with fail
  refine (must_ok _).mono ?_
  rintro e w2 ⟨rfl, rfl⟩
  go_wp2_with fail
  go_ret
  exact ⟨rfl, F1.out⟩
set_option maxRecDepth 100000 in
set_option maxHeartbeats 400000 in
theorem twrapping_er {S : List Nat} {w0 W : World} {p t n er : Nat} {st st' : Sough.Store} {y : Sough.Sym} {L0 : List (Nat × Obj)} {x : Int} (h : SF S w0 W p st ((t, talkC p y) :: L0)) (hx : Sough.Int64 x) (hf : Sough.kemPublic st x = (st', n, er)) (he : er ≠ 0) : Calls Try.prog 31 #[.pointer (some ⟨t, 0, none⟩), .int .i64 x] W fun e w' => e = .panicked (wrongP er) ∧ SF S w0 w' p st' ((t, talkC p y) :: L0) := by
  have CC := Lib.hid (h.wrapping hx hf)
  have HE := Lib.hid he
  clear he
  have F0 := Lib.hid h
  obtain ⟨⟨q0, _⟩, _⟩ := talk_now (h.get 0 rfl)
  clear h hf
  go_enter Try.func31, Try.ntmps31
  go_wp2_with fail
  refine CC.out.mono ?_
  rintro e w1 ⟨rfl, h1⟩
  have F1 := Lib.hid h1
  clear h1 F0 CC q0
  go_wp2_with fail
  refine (must_er HE.out _).mono ?_
  rintro e w2 ⟨rfl, rfl⟩
  exact ⟨rfl, rfl, F1.out⟩
set_option maxRecDepth 100000 in
set_option maxHeartbeats 400000 in
theorem tagreed_ok {S : List Nat} {w0 W : World} {p t n : Nat} {st st' : Sough.Store} {y : Sough.Sym} {L0 : List (Nat × Obj)} {x q : Int} (h : SF S w0 W p st ((t, talkC p y) :: L0)) (hx : Sough.Int64 x) (hf : Sough.dhAgree st x q = (st', n, 0)) : Calls Try.prog 33 #[.pointer (some ⟨t, 0, none⟩), .int .i64 x, .int .i64 q] W fun e w' => e = .returned (.int .i64 n) ∧ SF S w0 w' p st' ((t, talkC p y) :: L0) := by
  have CC := Lib.hid (h.agree hx hf)
  have F0 := Lib.hid h
  obtain ⟨⟨q0, _⟩, _⟩ := talk_now (h.get 0 rfl)
  clear h hf
  go_enter Try.func33, Try.ntmps33
  go_wp2_with fail
  refine CC.out.mono ?_
  rintro e w1 ⟨rfl, h1⟩
  have F1 := Lib.hid h1
  clear h1 F0 CC q0
  go_wp2_with fail
  refine (must_ok _).mono ?_
  rintro e w2 ⟨rfl, rfl⟩
  go_wp2_with fail
  go_ret
  exact ⟨rfl, F1.out⟩
set_option maxRecDepth 100000 in
set_option maxHeartbeats 400000 in
theorem tagreed_er {S : List Nat} {w0 W : World} {p t n er : Nat} {st st' : Sough.Store} {y : Sough.Sym} {L0 : List (Nat × Obj)} {x q : Int} (h : SF S w0 W p st ((t, talkC p y) :: L0)) (hx : Sough.Int64 x) (hf : Sough.dhAgree st x q = (st', n, er)) (he : er ≠ 0) : Calls Try.prog 33 #[.pointer (some ⟨t, 0, none⟩), .int .i64 x, .int .i64 q] W fun e w' => e = .panicked (wrongP er) ∧ SF S w0 w' p st' ((t, talkC p y) :: L0) := by
  have CC := Lib.hid (h.agree hx hf)
  have HE := Lib.hid he
  clear he
  have F0 := Lib.hid h
  obtain ⟨⟨q0, _⟩, _⟩ := talk_now (h.get 0 rfl)
  clear h hf
  go_enter Try.func33, Try.ntmps33
  go_wp2_with fail
  refine CC.out.mono ?_
  rintro e w1 ⟨rfl, h1⟩
  have F1 := Lib.hid h1
  clear h1 F0 CC q0
  go_wp2_with fail
  refine (must_er HE.out _).mono ?_
  rintro e w2 ⟨rfl, rfl⟩
  exact ⟨rfl, rfl, F1.out⟩
set_option maxRecDepth 100000 in
set_option maxHeartbeats 400000 in
theorem tunwrapped_ok {S : List Nat} {w0 W : World} {p t n : Nat} {st st' : Sough.Store} {y : Sough.Sym} {L0 : List (Nat × Obj)} {x q : Int} (h : SF S w0 W p st ((t, talkC p y) :: L0)) (hx : Sough.Int64 x) (hf : Sough.kemOpen st x q = (st', n, 0)) : Calls Try.prog 40 #[.pointer (some ⟨t, 0, none⟩), .int .i64 x, .int .i64 q] W fun e w' => e = .returned (.int .i64 n) ∧ SF S w0 w' p st' ((t, talkC p y) :: L0) := by
  have CC := Lib.hid (h.kopen hx hf)
  have F0 := Lib.hid h
  obtain ⟨⟨q0, _⟩, _⟩ := talk_now (h.get 0 rfl)
  clear h hf
  go_enter Try.func40, Try.ntmps40
  go_wp2_with fail
  refine CC.out.mono ?_
  rintro e w1 ⟨rfl, h1⟩
  have F1 := Lib.hid h1
  clear h1 F0 CC q0
  go_wp2_with fail
  refine (must_ok _).mono ?_
  rintro e w2 ⟨rfl, rfl⟩
  go_wp2_with fail
  go_ret
  exact ⟨rfl, F1.out⟩
set_option maxRecDepth 100000 in
set_option maxHeartbeats 400000 in
theorem tunwrapped_er {S : List Nat} {w0 W : World} {p t n er : Nat} {st st' : Sough.Store} {y : Sough.Sym} {L0 : List (Nat × Obj)} {x q : Int} (h : SF S w0 W p st ((t, talkC p y) :: L0)) (hx : Sough.Int64 x) (hf : Sough.kemOpen st x q = (st', n, er)) (he : er ≠ 0) : Calls Try.prog 40 #[.pointer (some ⟨t, 0, none⟩), .int .i64 x, .int .i64 q] W fun e w' => e = .panicked (wrongP er) ∧ SF S w0 w' p st' ((t, talkC p y) :: L0) := by
  have CC := Lib.hid (h.kopen hx hf)
  have HE := Lib.hid he
  clear he
  have F0 := Lib.hid h
  obtain ⟨⟨q0, _⟩, _⟩ := talk_now (h.get 0 rfl)
  clear h hf
  go_enter Try.func40, Try.ntmps40
  go_wp2_with fail
  refine CC.out.mono ?_
  rintro e w1 ⟨rfl, h1⟩
  have F1 := Lib.hid h1
  clear h1 F0 CC q0
  go_wp2_with fail
  refine (must_er HE.out _).mono ?_
  rintro e w2 ⟨rfl, rfl⟩
  exact ⟨rfl, rfl, F1.out⟩
-- read
set_option maxRecDepth 100000 in
set_option maxHeartbeats 400000 in
theorem tread_ok {S : List Nat} {w0 W : World} {p t : Nat} {st : Sough.Store} {y : Sough.Sym} {L0 : List (Nat × Obj)} {x : Int} {u : Sough.Term} (h : SF S w0 W p st ((t, talkC p y) :: L0)) (ht : st.at x = u) (hk : (u.k == 1) = true) : Calls Try.prog 43 #[.pointer (some ⟨t, 0, none⟩), .int .i64 x] W fun e w' => e = .returned (.string ⟨u.s.toArray⟩) ∧ SF S w0 w' p st ((t, talkC p y) :: L0) := by
  obtain ⟨⟨q0, _⟩, _⟩ := talk_now (h.get 0 rfl)
  have CG := Lib.hid (h.get1 (x := x) (b := st.has x) ht rfl)
  clear h ht
  go_enter Try.func43, Try.ntmps43
  go_wp2_with fail
  refine CG.out.mono ?_
  rintro e w1 ⟨rfl, h1⟩
  have F1 := Lib.hid (h1.alloc (.cells #[.int .i64 u.k, .string ⟨u.s.toArray⟩, .int .u64 u.n, .int .i64 u.a, .int .i64 u.b, .int .i64 u.c] 76))
  clear h1 CG q0
  go_wp2_with fail
  refine (need_ok _).mono ?_
  rintro e w2 ⟨rfl, rfl⟩
  go_wp2_with fail
  go_ret
  exact ⟨rfl, F1.out.sub (List.sublist_cons_self _ _)⟩
set_option maxRecDepth 100000 in
set_option maxHeartbeats 400000 in
theorem tread_er {S : List Nat} {w0 W : World} {p t : Nat} {st : Sough.Store} {y : Sough.Sym} {L0 : List (Nat × Obj)} {x : Int} {u : Sough.Term} (h : SF S w0 W p st ((t, talkC p y) :: L0)) (ht : st.at x = u) (hk : (u.k == 1) = false) : Calls Try.prog 43 #[.pointer (some ⟨t, 0, none⟩), .int .i64 x] W fun e w' => e = .panicked (wrongP 3) ∧ SF S w0 w' p st ((t, talkC p y) :: L0) := by
  obtain ⟨⟨q0, _⟩, _⟩ := talk_now (h.get 0 rfl)
  have CG := Lib.hid (h.get1 (x := x) (b := st.has x) ht rfl)
  clear h ht
  go_enter Try.func43, Try.ntmps43
  go_wp2_with fail
  refine CG.out.mono ?_
  rintro e w1 ⟨rfl, h1⟩
  have F1 := Lib.hid (h1.alloc (.cells #[.int .i64 u.k, .string ⟨u.s.toArray⟩, .int .u64 u.n, .int .i64 u.a, .int .i64 u.b, .int .i64 u.c] 76))
  clear h1 CG q0
  go_wp2_with fail
  refine (need_er (er := 3) (by omega) _).mono ?_
  rintro e w2 ⟨rfl, rfl⟩
  exact ⟨rfl, rfl, F1.out.sub (List.sublist_cons_self _ _)⟩
-- wrap
set_option maxRecDepth 100000 in
set_option maxHeartbeats 400000 in
theorem twrap_1 {S : List Nat} {w0 W : World} {p t a b er : Nat} {st st' : Sough.Store} {y : Sough.Sym} {L0 : List (Nat × Obj)} {q d : Int} (h : SF S w0 W p st ((t, talkC p y) :: L0)) (hx : Sough.Int64 d) (hf : Sough.kemWrap st q d = (st', a, b, er)) (he : er ≠ 0) : Calls Try.prog 34 #[.pointer (some ⟨t, 0, none⟩), .int .i64 q, .int .i64 d] W fun e w' => e = .panicked (wrongP er) ∧ ∃ y', SF S w0 w' p st' ((t, talkC p y') :: L0) := by
  have HE := Lib.hid he
  clear he
  obtain ⟨⟨q0, _⟩, _⟩ := talk_now (h.get 0 rfl)
  have CW := Lib.hid (h.kwrap hx hf)
  have HO := Lib.hid h.ok
  clear h hx hf
  go_enter Try.func34, Try.ntmps34
  go_wp2_with fail
  refine CW.out.mono ?_
  rintro e w1 ⟨rfl, h1⟩
  have F1 := Lib.hid h1
  clear h1 CW q0
  go_wp2_with fail
  refine (must_er HE.out _).mono ?_
  rintro e w2 ⟨rfl, rfl⟩
  exact ⟨rfl, rfl, _, F1.out⟩
set_option maxRecDepth 100000 in
set_option maxHeartbeats 400000 in
theorem twrap_2 {S : List Nat} {w0 W : World} {p t a b er : Nat} {st st' st'' : Sough.Store} {y z : Sough.Sym} {L0 : List (Nat × Obj)} {q d : Int} (h : SF S w0 W p st ((t, talkC p y) :: L0)) (hx : Sough.Int64 d) (hy : y.Wf) (ha : Sough.Int64 a) (hf : Sough.kemWrap st q d = (st', a, b, 0)) (hg : Sough.symHash st' y a = (st'', z, er)) (he : er ≠ 0) : Calls Try.prog 34 #[.pointer (some ⟨t, 0, none⟩), .int .i64 q, .int .i64 d] W fun e w' => e = .panicked (wrongP er) ∧ ∃ y', SF S w0 w' p st'' ((t, talkC p y') :: L0) := by
  have HE := Lib.hid he; have HG := Lib.hid hg; have HY := Lib.hid hy; have HA := Lib.hid ha
  clear he hg hy ha
  obtain ⟨⟨q0, _⟩, _⟩ := talk_now (h.get 0 rfl)
  have CW := Lib.hid (h.kwrap hx hf)
  have HO := Lib.hid h.ok
  clear h hx hf
  go_enter Try.func34, Try.ntmps34
  go_wp2_with fail
  refine CW.out.mono ?_
  rintro e w1 ⟨rfl, h1⟩
  have F1 := Lib.hid h1
  clear h1 CW q0
  go_wp2_with fail
  refine (must_ok _).mono ?_
  rintro e w2 ⟨rfl, rfl⟩
  go_wp2_with fail
  refine (thash_er F1.out HY.out HA.out HG.out HE.out).mono ?_
  rintro e w3 ⟨rfl, h1⟩
  exact ⟨rfl, rfl, _, h1⟩
set_option maxRecDepth 100000 in
set_option maxHeartbeats 400000 in
theorem twrap_3 {S : List Nat} {w0 W : World} {p t a b er : Nat} {st st' st'' st3 : Sough.Store} {y z z2 : Sough.Sym} {L0 : List (Nat × Obj)} {q d : Int} (h : SF S w0 W p st ((t, talkC p y) :: L0)) (hx : Sough.Int64 d) (hy : y.Wf) (hz : z.Wf) (ha : Sough.Int64 a) (hb : Sough.Int64 b) (hf : Sough.kemWrap st q d = (st', a, b, 0)) (hg : Sough.symHash st' y a = (st'', z, 0)) (hm : Sough.symMix st'' z b = (st3, z2, er)) (he : er ≠ 0) : Calls Try.prog 34 #[.pointer (some ⟨t, 0, none⟩), .int .i64 q, .int .i64 d] W fun e w' => e = .panicked (wrongP er) ∧ ∃ y', SF S w0 w' p st3 ((t, talkC p y') :: L0) := by
  have HE := Lib.hid he; have HG := Lib.hid hg; have HM := Lib.hid hm; have HY := Lib.hid hy; have HZ := Lib.hid hz; have HA := Lib.hid ha; have HB := Lib.hid hb
  clear he hg hy ha hm hz hb
  obtain ⟨⟨q0, _⟩, _⟩ := talk_now (h.get 0 rfl)
  have CW := Lib.hid (h.kwrap hx hf)
  have HO := Lib.hid h.ok
  clear h hx hf
  go_enter Try.func34, Try.ntmps34
  go_wp2_with fail
  refine CW.out.mono ?_
  rintro e w1 ⟨rfl, h1⟩
  have F1 := Lib.hid h1
  clear h1 CW q0
  go_wp2_with fail
  refine (must_ok _).mono ?_
  rintro e w2 ⟨rfl, rfl⟩
  go_wp2_with fail
  refine (thash_ok F1.out HY.out HA.out HG.out).mono ?_
  rintro e w3 ⟨rfl, h1⟩
  have F2 := Lib.hid h1
  clear h1 F1
  go_wp2_with fail
  refine (tmix_er F2.out HZ.out HB.out HM.out HE.out).mono ?_
  rintro e w4 ⟨rfl, h1⟩
  exact ⟨rfl, rfl, _, h1⟩
set_option maxRecDepth 100000 in
set_option maxHeartbeats 400000 in
theorem twrap_4 {S : List Nat} {w0 W : World} {p t a b : Nat} {st st' st'' st3 : Sough.Store} {y z z2 : Sough.Sym} {L0 : List (Nat × Obj)} {q d : Int} (h : SF S w0 W p st ((t, talkC p y) :: L0)) (hx : Sough.Int64 d) (hy : y.Wf) (hz : z.Wf) (ha : Sough.Int64 a) (hb : Sough.Int64 b) (hf : Sough.kemWrap st q d = (st', a, b, 0)) (hg : Sough.symHash st' y a = (st'', z, 0)) (hm : Sough.symMix st'' z b = (st3, z2, 0)) : Calls Try.prog 34 #[.pointer (some ⟨t, 0, none⟩), .int .i64 q, .int .i64 d] W fun e w' => e = .returned (.int .i64 a) ∧ SF S w0 w' p st3 ((t, talkC p z2) :: L0) := by
  have HG := Lib.hid hg; have HM := Lib.hid hm; have HY := Lib.hid hy; have HZ := Lib.hid hz; have HA := Lib.hid ha; have HB := Lib.hid hb
  clear hg hy ha hm hz hb
  obtain ⟨⟨q0, _⟩, _⟩ := talk_now (h.get 0 rfl)
  have CW := Lib.hid (h.kwrap hx hf)
  have HO := Lib.hid h.ok
  clear h hx hf
  go_enter Try.func34, Try.ntmps34
  go_wp2_with fail
  refine CW.out.mono ?_
  rintro e w1 ⟨rfl, h1⟩
  have F1 := Lib.hid h1
  clear h1 CW q0
  go_wp2_with fail
  refine (must_ok _).mono ?_
  rintro e w2 ⟨rfl, rfl⟩
  go_wp2_with fail
  refine (thash_ok F1.out HY.out HA.out HG.out).mono ?_
  rintro e w3 ⟨rfl, h1⟩
  have F2 := Lib.hid h1
  clear h1 F1
  go_wp2_with fail
  refine (tmix_ok F2.out HZ.out HB.out HM.out).mono ?_
  rintro e w4 ⟨rfl, h1⟩
  have F3 := Lib.hid h1
  clear h1 F2
  go_wp2_with fail
  go_ret
  exact ⟨rfl, F3.out⟩
end Go.Proofs.Ytlfgempjjoclbaa
namespace Go.Proofs.Ytlfgempjjoclbaa
open Go.RowKit Go.Maps Go.ChangeMaps
theorem assert_yes (er : Int) (w : World) : (Instr.typeAssert (.iface 120 (.agg #[.int .i64 er])) 20 120 true).run Try.prog w = .ok (.tuple #[.agg #[.int .i64 er], .bool true]) w := by kernel_rfl
theorem assert_no (w : World) : (Instr.typeAssert .nilIface 20 120 true).run Try.prog w = .ok (.tuple #[.agg #[.int .i64 0], .bool false]) w := by kernel_rfl
set_option maxRecDepth 100000 in
set_option maxHeartbeats 400000 in
theorem ended_panicking (a : Addr) (old : Value) (er : Nat) (older : List PanicEntry) (w : World) (hc : w.cell? a = some old) (hz : w.frozen? a = false) :
    CallsD Try.prog 26 #[.pointer (some a)] (.panicking ({ v := .iface 120 (.agg #[.int .i64 er]), recovered := false } :: older)) w fun e u' w' =>
      e = .returned (.tuple #[]) ∧ u' = .panicking ({ v := .iface 120 (.agg #[.int .i64 er]), recovered := true } :: older) ∧ w' = (w.alloc (.cells #[.int .i64 er] 120)).setCell a (.int .i64 er) := by
  have hc2 := ((Below.refl w.heap.size w).alloc (Nat.le_refl _) (.cells #[.int .i64 er] 120)).cell (p := a) (World.block_lt_of_cell? w a hc)
  have hz2 := ((Below.refl w.heap.size w).alloc (Nat.le_refl _) (.cells #[.int .i64 er] 120)).frozen (p := a) (World.block_lt_of_cell? w a hc)
  rw [hc] at hc2
  rw [hz] at hz2
  refine callsD_of_wpS Try.func26 rfl fun c₀ cs hu => ?_
  apply wpS_seq
  apply wpS_region
  simp [wpOpsS, go_sem, recoverD, hu, Try.ntmps26, Exit.thenS, assert_yes, assert_no]
  apply wpS_seq
  apply wpS_region
  simp [wpOpsS, go_sem, Exit.thenS]
  refine wpS_cond (t := true) (by simp [Act.eval, Array.replicate]) ?_
  simp only [if_true]
  apply wpS_region
  simp [wpOpsS, go_sem, hc2, hz2, bodyPostS, results, Try.results26]
set_option maxRecDepth 100000 in
set_option maxHeartbeats 400000 in
theorem ended_idle (a : Addr) (w : World) :
    CallsD Try.prog 26 #[.pointer (some a)] .returning w fun e u' w' => e = .returned (.tuple #[]) ∧ u' = .returning ∧ w' = w.alloc (.cells #[.int .i64 0] 120) := by
  refine callsD_of_wpS Try.func26 rfl fun c₀ cs hu => ?_
  apply wpS_seq
  apply wpS_region
  simp [wpOpsS, go_sem, recoverD, hu, Try.ntmps26, Exit.thenS, assert_yes, assert_no]
  apply wpS_seq
  apply wpS_region
  simp [wpOpsS, go_sem, Exit.thenS]
  refine wpS_cond (t := false) (by simp [Act.eval, Array.replicate]) ?_
  simp only [Bool.false_eq_true, if_false]
  refine wpS_of_wp (wp_skip ?_)
  cases c₀
  simp_all [bodyPostS, results, Try.results26]
end Go.Proofs.Ytlfgempjjoclbaa
namespace Sough
theorem res1_ok {r : Store × Nat × Nat} {s : Store} {x : Int} (h : res1 r = (s, .ok x)) : ∃ n : Nat, r = (s, n, 0) ∧ x = n := by
  obtain ⟨a, b, c⟩ := r
  unfold res1 at h
  by_cases e : c = 0
  · subst e
    simp at h
    exact ⟨b, by rw [h.1], h.2.symm⟩
  · simp [e] at h
theorem res1_er {r : Store × Nat × Nat} {s : Store} {er : Nat} (h : res1 r = (s, .error er)) : ∃ n : Nat, r = (s, n, er) ∧ er ≠ 0 := by
  obtain ⟨a, b, c⟩ := r
  unfold res1 at h
  by_cases e : c = 0
  · subst e; simp at h
  · simp [e] at h
    obtain ⟨rfl, rfl⟩ := h
    exact ⟨b, rfl, e⟩
theorem resY_ok {r : Store × Sym × Nat} {s : Store} {x : Sym} (h : resY r = (s, .ok x)) : r = (s, x, 0) := by
  obtain ⟨a, b, c⟩ := r
  unfold resY at h
  by_cases e : c = 0
  · subst e
    simp at h
    rw [h.1, h.2]
  · simp [e] at h
theorem resY_er {r : Store × Sym × Nat} {s : Store} {er : Nat} (h : resY r = (s, .error er)) : ∃ z, r = (s, z, er) ∧ er ≠ 0 := by
  obtain ⟨a, b, c⟩ := r
  unfold resY at h
  by_cases e : c = 0
  · subst e; simp at h
  · simp [e] at h
    obtain ⟨rfl, rfl⟩ := h
    exact ⟨b, rfl, e⟩
theorem resYX_ok {r : Store × Sym × Int × Nat} {s : Store} {x : Sym × Int} (h : resYX r = (s, .ok x)) : r = (s, x.1, x.2, 0) := by
  obtain ⟨a, b, c, d⟩ := r
  unfold resYX at h
  by_cases e : d = 0
  · subst e
    simp at h
    obtain ⟨rfl, rfl⟩ := h
    rfl
  · simp [e] at h
theorem resYX_er {r : Store × Sym × Int × Nat} {s : Store} {er : Nat} (h : resYX r = (s, .error er)) : ∃ z x, r = (s, z, x, er) ∧ er ≠ 0 := by
  obtain ⟨a, b, c, d⟩ := r
  unfold resYX at h
  by_cases e : d = 0
  · subst e; simp at h
  · simp [e] at h
    obtain ⟨rfl, rfl⟩ := h
    exact ⟨b, c, rfl, e⟩
theorem res2_ok {r : Store × Nat × Nat × Nat} {s : Store} {x : Int × Int} (h : res2 r = (s, .ok x)) : ∃ a b : Nat, r = (s, a, b, 0) ∧ x = ((a : Int), (b : Int)) := by
  obtain ⟨a, b, c, d⟩ := r
  unfold res2 at h
  by_cases e : d = 0
  · subst e
    simp at h
    exact ⟨b, c, by rw [h.1], h.2.symm⟩
  · simp [e] at h
theorem res2_er {r : Store × Nat × Nat × Nat} {s : Store} {er : Nat} (h : res2 r = (s, .error er)) : ∃ a b, r = (s, a, b, er) ∧ er ≠ 0 := by
  obtain ⟨a, b, c, d⟩ := r
  unfold res2 at h
  by_cases e : d = 0
  · subst e; simp at h
  · simp [e] at h
    obtain ⟨rfl, rfl⟩ := h
    exact ⟨b, c, rfl, e⟩
theorem hashT_wf {st s : Store} {y z : Sym} {x : Int} (h : st.Ok) (hy : y.Wf) (hf : hashT st y x = (s, .ok z)) : z.Wf := by
  have := symHash_wf (x := x) h hy
  rw [resY_ok hf] at this; exact this
theorem mixT_wf {st s : Store} {y z : Sym} {x : Int} (h : st.Ok) (hy : y.Wf) (hx : Int64 x) (hf : mixT st y x = (s, .ok z)) : z.Wf := by
  have := symMix_wf (x := x) h hy hx
  rw [resY_ok hf] at this; exact this
theorem sealT_wf {st s : Store} {y : Sym} {z : Sym × Int} {x : Int} (h : st.Ok) (hy : y.Wf) (hx : Int64 x) (hf : sealT st y x = (s, .ok z)) : z.1.Wf := by
  have := symSeal_wf (x := x) h hy hx
  rw [resYX_ok hf] at this; exact this
theorem openT_wf {st s : Store} {y : Sym} {z : Sym × Int} {x : Int} (h : st.Ok) (hy : y.Wf) (hf : openT st y x = (s, .ok z)) : z.1.Wf := by
  have := symOpen_wf (x := x) h hy
  rw [resYX_ok hf] at this; exact this
theorem textT_name {st s : Store} {x : Int} {t : List UInt8} (h : st.Ok) (hf : textT st t = (s, .ok x)) : Int64 x := by
  obtain ⟨n, h1, rfl⟩ := res1_ok hf
  have := put_name h ⟨1, t, 0, 0, 0, 0⟩
  unfold Store.putText at h1; rw [h1] at this; exact i64_nat this
theorem publicT_name {st s : Store} {x q : Int} (h : st.Ok) (hf : publicT st q = (s, .ok x)) : Int64 x := by
  obtain ⟨n, h1, rfl⟩ := res1_ok hf
  have := put_name h ⟨3, [], 0, q, 0, 0⟩
  unfold dhPublic at h1; rw [h1] at this; exact i64_nat this
theorem wrappingT_name {st s : Store} {x q : Int} (h : st.Ok) (hf : wrappingT st q = (s, .ok x)) : Int64 x := by
  obtain ⟨n, h1, rfl⟩ := res1_ok hf
  have := put_name h ⟨5, [], 0, q, 0, 0⟩
  unfold kemPublic at h1; rw [h1] at this; exact i64_nat this
theorem agreedT_name {st s : Store} {x q r : Int} (h : st.Ok) (hf : agreedT st q r = (s, .ok x)) : Int64 x := by
  obtain ⟨n, h1, rfl⟩ := res1_ok hf
  have hn : (dhAgree st q r).2.1 ≤ 1048576 := by
    unfold dhAgree
    split
    · exact Nat.zero_le _
    · split
      · exact put_name h _
      · exact put_name h _
  rw [h1] at hn; exact i64_nat hn
theorem unwrappedT_name {st s : Store} {x q r : Int} (h : st.Ok) (hf : unwrappedT st q r = (s, .ok x)) : Int64 x := by
  obtain ⟨n, h1, rfl⟩ := res1_ok hf
  have hn : (kemOpen st q r).2.1 ≤ 1048576 := by
    unfold kemOpen
    split
    · exact Nat.zero_le _
    · split
      · exact Nat.zero_le _
      · exact put_name h _
  rw [h1] at hn; exact i64_nat hn
theorem symSaid_x {st s : Store} {y z : Sym} {sl x x' : Int} {er : Nat} (hf : symSaid st y sl x er = (s, z, x', 0)) : x' = x := by
  unfold symSaid at hf
  split at hf
  · rename_i h; simp only [Prod.mk.injEq] at hf; exact absurd hf.2.2.2 h
  · split at hf
    · rename_i h; simp only [Prod.mk.injEq] at hf; exact absurd hf.2.2.2 h
    · simp only [Prod.mk.injEq] at hf; exact hf.2.2.1.symm
theorem sealT_name {st s : Store} {y : Sym} {z : Sym × Int} {x : Int} (h : st.Ok) (hf : sealT st y x = (s, .ok z)) : Int64 z.2 := by
  have h1 := resYX_ok hf
  unfold symSeal at h1
  split at h1
  · simp at h1
  · rw [symSaid_x h1]; exact seal_name h
theorem openT_name {st s : Store} {y : Sym} {z : Sym × Int} {x : Int} (h : st.Ok) (hf : openT st y x = (s, .ok z)) : Int64 z.2 := by
  have h1 := resYX_ok hf
  unfold symOpen at h1
  split at h1
  · simp at h1
  · rw [symSaid_x h1]
    unfold aeadOpen
    split
    · exact i64_zero
    · split
      · exact i64_zero
      · exact (at_wf h x).c
end Sough
namespace Go.Proofs.Ytlfgempjjoclbaa
open Go.RowKit Go.Maps Go.ChangeMaps
section
variable {S : List Nat} {w0 W : World} {p t : Nat} {st s : Sough.Store} {y : Sough.Sym} {L0 : List (Nat × Obj)}
theorem hashT_ok {x : Int} {z : Sough.Sym} (h : SF S w0 W p st ((t, talkC p y) :: L0)) (hy : y.Wf) (hx : Sough.Int64 x) (hf : Sough.hashT st y x = (s, .ok z)) : Calls Try.prog 30 #[.pointer (some ⟨t, 0, none⟩), .int .i64 x] W (fun e w' => e = .returned (.tuple #[]) ∧ SF S w0 w' p s ((t, talkC p z) :: L0)) := thash_ok h hy hx (Sough.resY_ok hf)
theorem hashT_er {x : Int} {er : Nat} (h : SF S w0 W p st ((t, talkC p y) :: L0)) (hy : y.Wf) (hx : Sough.Int64 x) (hf : Sough.hashT st y x = (s, .error er)) : Calls Try.prog 30 #[.pointer (some ⟨t, 0, none⟩), .int .i64 x] W (fun e w' => e = .panicked (wrongP er) ∧ ∃ y', SF S w0 w' p s ((t, talkC p y') :: L0)) := by
  obtain ⟨z, h1, he⟩ := Sough.resY_er hf
  exact (thash_er h hy hx h1 he).mono fun _ _ ⟨a, b⟩ => ⟨a, _, b⟩
theorem mixT_ok {x : Int} {z : Sough.Sym} (h : SF S w0 W p st ((t, talkC p y) :: L0)) (hy : y.Wf) (hx : Sough.Int64 x) (hf : Sough.mixT st y x = (s, .ok z)) : Calls Try.prog 32 #[.pointer (some ⟨t, 0, none⟩), .int .i64 x] W (fun e w' => e = .returned (.tuple #[]) ∧ SF S w0 w' p s ((t, talkC p z) :: L0)) := tmix_ok h hy hx (Sough.resY_ok hf)
theorem mixT_er {x : Int} {er : Nat} (h : SF S w0 W p st ((t, talkC p y) :: L0)) (hy : y.Wf) (hx : Sough.Int64 x) (hf : Sough.mixT st y x = (s, .error er)) : Calls Try.prog 32 #[.pointer (some ⟨t, 0, none⟩), .int .i64 x] W (fun e w' => e = .panicked (wrongP er) ∧ ∃ y', SF S w0 w' p s ((t, talkC p y') :: L0)) := by
  obtain ⟨z, h1, he⟩ := Sough.resY_er hf
  exact (tmix_er h hy hx h1 he).mono fun _ _ ⟨a, b⟩ => ⟨a, _, b⟩
theorem sealT_ok {x : Int} {z : Sough.Sym × Int} (h : SF S w0 W p st ((t, talkC p y) :: L0)) (hy : y.Wf) (hx : Sough.Int64 x) (hf : Sough.sealT st y x = (s, .ok z)) : Calls Try.prog 35 #[.pointer (some ⟨t, 0, none⟩), .int .i64 x] W (fun e w' => e = .returned (.int .i64 z.2) ∧ SF S w0 w' p s ((t, talkC p z.1) :: L0)) := tseal_ok h hy hx (Sough.resYX_ok hf)
theorem sealT_er {x : Int} {er : Nat} (h : SF S w0 W p st ((t, talkC p y) :: L0)) (hy : y.Wf) (hx : Sough.Int64 x) (hf : Sough.sealT st y x = (s, .error er)) : Calls Try.prog 35 #[.pointer (some ⟨t, 0, none⟩), .int .i64 x] W (fun e w' => e = .panicked (wrongP er) ∧ ∃ y', SF S w0 w' p s ((t, talkC p y') :: L0)) := by
  obtain ⟨z, x', h1, he⟩ := Sough.resYX_er hf
  exact (tseal_er h hy hx h1 he).mono fun _ _ ⟨a, b⟩ => ⟨a, _, b⟩
theorem openT_ok {x : Int} {z : Sough.Sym × Int} (h : SF S w0 W p st ((t, talkC p y) :: L0)) (hy : y.Wf) (hx : Sough.Int64 x) (hf : Sough.openT st y x = (s, .ok z)) : Calls Try.prog 41 #[.pointer (some ⟨t, 0, none⟩), .int .i64 x] W (fun e w' => e = .returned (.int .i64 z.2) ∧ SF S w0 w' p s ((t, talkC p z.1) :: L0)) := topen_ok h hy hx (Sough.resYX_ok hf)
theorem openT_er {x : Int} {er : Nat} (h : SF S w0 W p st ((t, talkC p y) :: L0)) (hy : y.Wf) (hx : Sough.Int64 x) (hf : Sough.openT st y x = (s, .error er)) : Calls Try.prog 41 #[.pointer (some ⟨t, 0, none⟩), .int .i64 x] W (fun e w' => e = .panicked (wrongP er) ∧ ∃ y', SF S w0 w' p s ((t, talkC p y') :: L0)) := by
  obtain ⟨z, x', h1, he⟩ := Sough.resYX_er hf
  exact (topen_er h hy hx h1 he).mono fun _ _ ⟨a, b⟩ => ⟨a, _, b⟩
theorem splitT_ok {z : Int × Int} (h : SF S w0 W p st ((t, talkC p y) :: L0)) (hy : y.Wf) (hf : Sough.splitT st y = (s, .ok z)) : Calls Try.prog 45 #[.pointer (some ⟨t, 0, none⟩)] W (fun e w' => e = .returned (.tuple #[.int .i64 z.1, .int .i64 z.2]) ∧ SF S w0 w' p s ((t, talkC p y) :: L0)) := by
  obtain ⟨a, b, h1, rfl⟩ := Sough.res2_ok hf
  exact tsplit_ok h hy h1
theorem splitT_er {er : Nat} (h : SF S w0 W p st ((t, talkC p y) :: L0)) (hy : y.Wf) (hf : Sough.splitT st y = (s, .error er)) : Calls Try.prog 45 #[.pointer (some ⟨t, 0, none⟩)] W (fun e w' => e = .panicked (wrongP er) ∧ ∃ y', SF S w0 w' p s ((t, talkC p y') :: L0)) := by
  obtain ⟨a, b, h1, he⟩ := Sough.res2_er hf
  exact (tsplit_er h hy h1 he).mono fun _ _ ⟨a, b⟩ => ⟨a, _, b⟩
theorem textT_ok {x : Int} {l : List UInt8} (h : SF S w0 W p st ((t, talkC p y) :: L0)) (hs : l.length ≤ 9223372036854775807) (hf : Sough.textT st l = (s, .ok x)) : Calls Try.prog 36 #[.pointer (some ⟨t, 0, none⟩), .string ⟨l.toArray⟩] W (fun e w' => e = .returned (.int .i64 x) ∧ SF S w0 w' p s ((t, talkC p y) :: L0)) := by
  obtain ⟨n, h1, rfl⟩ := Sough.res1_ok hf
  exact ttext_ok h hs h1
theorem textT_er {er : Nat} {l : List UInt8} (h : SF S w0 W p st ((t, talkC p y) :: L0)) (hs : l.length ≤ 9223372036854775807) (hf : Sough.textT st l = (s, .error er)) : Calls Try.prog 36 #[.pointer (some ⟨t, 0, none⟩), .string ⟨l.toArray⟩] W (fun e w' => e = .panicked (wrongP er) ∧ ∃ y', SF S w0 w' p s ((t, talkC p y') :: L0)) := by
  obtain ⟨n, h1, he⟩ := Sough.res1_er hf
  exact (ttext_er h hs h1 he).mono fun _ _ ⟨a, b⟩ => ⟨a, _, b⟩
theorem publicT_ok {x q : Int} (h : SF S w0 W p st ((t, talkC p y) :: L0)) (hq : Sough.Int64 q) (hf : Sough.publicT st q = (s, .ok x)) : Calls Try.prog 29 #[.pointer (some ⟨t, 0, none⟩), .int .i64 q] W (fun e w' => e = .returned (.int .i64 x) ∧ SF S w0 w' p s ((t, talkC p y) :: L0)) := by
  obtain ⟨n, h1, rfl⟩ := Sough.res1_ok hf
  exact tpublic_ok h hq h1
theorem publicT_er {er : Nat} {q : Int} (h : SF S w0 W p st ((t, talkC p y) :: L0)) (hq : Sough.Int64 q) (hf : Sough.publicT st q = (s, .error er)) : Calls Try.prog 29 #[.pointer (some ⟨t, 0, none⟩), .int .i64 q] W (fun e w' => e = .panicked (wrongP er) ∧ ∃ y', SF S w0 w' p s ((t, talkC p y') :: L0)) := by
  obtain ⟨n, h1, he⟩ := Sough.res1_er hf
  exact (tpublic_er h hq h1 he).mono fun _ _ ⟨a, b⟩ => ⟨a, _, b⟩
theorem wrappingT_ok {x q : Int} (h : SF S w0 W p st ((t, talkC p y) :: L0)) (hq : Sough.Int64 q) (hf : Sough.wrappingT st q = (s, .ok x)) : Calls Try.prog 31 #[.pointer (some ⟨t, 0, none⟩), .int .i64 q] W (fun e w' => e = .returned (.int .i64 x) ∧ SF S w0 w' p s ((t, talkC p y) :: L0)) := by
  obtain ⟨n, h1, rfl⟩ := Sough.res1_ok hf
  exact twrapping_ok h hq h1
theorem wrappingT_er {er : Nat} {q : Int} (h : SF S w0 W p st ((t, talkC p y) :: L0)) (hq : Sough.Int64 q) (hf : Sough.wrappingT st q = (s, .error er)) : Calls Try.prog 31 #[.pointer (some ⟨t, 0, none⟩), .int .i64 q] W (fun e w' => e = .panicked (wrongP er) ∧ ∃ y', SF S w0 w' p s ((t, talkC p y') :: L0)) := by
  obtain ⟨n, h1, he⟩ := Sough.res1_er hf
  exact (twrapping_er h hq h1 he).mono fun _ _ ⟨a, b⟩ => ⟨a, _, b⟩
theorem agreedT_ok {x q r : Int} (h : SF S w0 W p st ((t, talkC p y) :: L0)) (hq : Sough.Int64 q) (hf : Sough.agreedT st q r = (s, .ok x)) : Calls Try.prog 33 #[.pointer (some ⟨t, 0, none⟩), .int .i64 q, .int .i64 r] W (fun e w' => e = .returned (.int .i64 x) ∧ SF S w0 w' p s ((t, talkC p y) :: L0)) := by
  obtain ⟨n, h1, rfl⟩ := Sough.res1_ok hf
  exact tagreed_ok h hq h1
theorem agreedT_er {er : Nat} {q r : Int} (h : SF S w0 W p st ((t, talkC p y) :: L0)) (hq : Sough.Int64 q) (hf : Sough.agreedT st q r = (s, .error er)) : Calls Try.prog 33 #[.pointer (some ⟨t, 0, none⟩), .int .i64 q, .int .i64 r] W (fun e w' => e = .panicked (wrongP er) ∧ ∃ y', SF S w0 w' p s ((t, talkC p y') :: L0)) := by
  obtain ⟨n, h1, he⟩ := Sough.res1_er hf
  exact (tagreed_er h hq h1 he).mono fun _ _ ⟨a, b⟩ => ⟨a, _, b⟩
theorem unwrappedT_ok {x q r : Int} (h : SF S w0 W p st ((t, talkC p y) :: L0)) (hq : Sough.Int64 q) (hf : Sough.unwrappedT st q r = (s, .ok x)) : Calls Try.prog 40 #[.pointer (some ⟨t, 0, none⟩), .int .i64 q, .int .i64 r] W (fun e w' => e = .returned (.int .i64 x) ∧ SF S w0 w' p s ((t, talkC p y) :: L0)) := by
  obtain ⟨n, h1, rfl⟩ := Sough.res1_ok hf
  exact tunwrapped_ok h hq h1
theorem unwrappedT_er {er : Nat} {q r : Int} (h : SF S w0 W p st ((t, talkC p y) :: L0)) (hq : Sough.Int64 q) (hf : Sough.unwrappedT st q r = (s, .error er)) : Calls Try.prog 40 #[.pointer (some ⟨t, 0, none⟩), .int .i64 q, .int .i64 r] W (fun e w' => e = .panicked (wrongP er) ∧ ∃ y', SF S w0 w' p s ((t, talkC p y') :: L0)) := by
  obtain ⟨n, h1, he⟩ := Sough.res1_er hf
  exact (tunwrapped_er h hq h1 he).mono fun _ _ ⟨a, b⟩ => ⟨a, _, b⟩
theorem readT_ok {x : Int} {l : List UInt8} (h : SF S w0 W p st ((t, talkC p y) :: L0)) (hf : Sough.readT st x = (s, .ok l)) : Calls Try.prog 43 #[.pointer (some ⟨t, 0, none⟩), .int .i64 x] W (fun e w' => e = .returned (.string ⟨l.toArray⟩) ∧ SF S w0 w' p s ((t, talkC p y) :: L0)) := by
  unfold Sough.readT at hf
  split at hf
  · rename_i hk
    simp only [Prod.mk.injEq, Except.ok.injEq] at hf
    obtain ⟨rfl, rfl⟩ := hf
    exact tread_ok h rfl (by simpa using hk)
  · simp at hf
theorem readT_er {x : Int} {er : Nat} (h : SF S w0 W p st ((t, talkC p y) :: L0)) (hf : Sough.readT st x = (s, .error er)) : Calls Try.prog 43 #[.pointer (some ⟨t, 0, none⟩), .int .i64 x] W (fun e w' => e = .panicked (wrongP er) ∧ ∃ y', SF S w0 w' p s ((t, talkC p y') :: L0)) := by
  unfold Sough.readT at hf
  split at hf
  · simp at hf
  · rename_i hk
    simp only [Prod.mk.injEq, Except.error.injEq] at hf
    obtain ⟨rfl, rfl⟩ := hf
    exact (tread_er h rfl (by simpa using hk)).mono fun _ _ ⟨a, b⟩ => ⟨a, _, b⟩
theorem wrapT_ok {q d : Int} {z : Sough.Sym × Int} (h : SF S w0 W p st ((t, talkC p y) :: L0)) (hy : y.Wf) (hd : Sough.Int64 d) (hf : Sough.wrapT st y q d = (s, .ok z)) : Calls Try.prog 34 #[.pointer (some ⟨t, 0, none⟩), .int .i64 q, .int .i64 d] W (fun e w' => e = .returned (.int .i64 z.2) ∧ SF S w0 w' p s ((t, talkC p z.1) :: L0)) := by
  unfold Sough.wrapT at hf
  obtain ⟨s1, r1, h1⟩ : ∃ s r, Sough.res2 (Sough.kemWrap st q d) = (s, r) := ⟨_, _, rfl⟩
  have hk := Sough.kwrap_names (q := q) h.ok hd
  have ho := Sough.kwrap_ok (q := q) h.ok hd
  rw [h1] at hf
  rcases r1 with er | b
  · simp [Sough.bnd] at hf
  obtain ⟨a, c, h2, rfl⟩ := Sough.res2_ok h1
  rw [h2] at hk ho
  obtain ⟨s2, r2, h3⟩ : ∃ s r, Sough.hashT s1 y a = (s, r) := ⟨_, _, rfl⟩
  simp only [Sough.bnd, h3] at hf
  rcases r2 with er | z1
  · simp at hf
  have hz := Sough.hashT_wf ho hy h3
  obtain ⟨s3, r3, h4⟩ : ∃ s r, Sough.mixT s2 z1 c = (s, r) := ⟨_, _, rfl⟩
  simp only [h4] at hf
  rcases r3 with er | z2
  · simp at hf
  simp only [Prod.mk.injEq, Except.ok.injEq] at hf
  obtain ⟨rfl, rfl⟩ := hf
  exact twrap_4 h hd hy hz hk.1 hk.2 h2 (Sough.resY_ok h3) (Sough.resY_ok h4)
theorem wrapT_er {q d : Int} {er : Nat} (h : SF S w0 W p st ((t, talkC p y) :: L0)) (hy : y.Wf) (hd : Sough.Int64 d) (hf : Sough.wrapT st y q d = (s, .error er)) : Calls Try.prog 34 #[.pointer (some ⟨t, 0, none⟩), .int .i64 q, .int .i64 d] W (fun e w' => e = .panicked (wrongP er) ∧ ∃ y', SF S w0 w' p s ((t, talkC p y') :: L0)) := by
  unfold Sough.wrapT at hf
  obtain ⟨s1, r1, h1⟩ : ∃ s r, Sough.res2 (Sough.kemWrap st q d) = (s, r) := ⟨_, _, rfl⟩
  have hk := Sough.kwrap_names (q := q) h.ok hd
  have ho := Sough.kwrap_ok (q := q) h.ok hd
  rw [h1] at hf
  rcases r1 with e1 | b
  · simp only [Sough.bnd, Prod.mk.injEq, Except.error.injEq] at hf
    obtain ⟨rfl, rfl⟩ := hf
    obtain ⟨a, c, h2, he⟩ := Sough.res2_er h1
    exact twrap_1 h hd h2 he
  obtain ⟨a, c, h2, rfl⟩ := Sough.res2_ok h1
  rw [h2] at hk ho
  obtain ⟨s2, r2, h3⟩ : ∃ s r, Sough.hashT s1 y a = (s, r) := ⟨_, _, rfl⟩
  simp only [Sough.bnd, h3] at hf
  rcases r2 with e1 | z1
  · simp only [Prod.mk.injEq, Except.error.injEq] at hf
    obtain ⟨rfl, rfl⟩ := hf
    obtain ⟨z, h4, he⟩ := Sough.resY_er h3
    exact twrap_2 h hd hy hk.1 h2 h4 he
  have hz := Sough.hashT_wf ho hy h3
  obtain ⟨s3, r3, h4⟩ : ∃ s r, Sough.mixT s2 z1 c = (s, r) := ⟨_, _, rfl⟩
  simp only [h4] at hf
  rcases r3 with e1 | z2
  · simp only [Prod.mk.injEq, Except.error.injEq] at hf
    obtain ⟨rfl, rfl⟩ := hf
    obtain ⟨z, h5, he⟩ := Sough.resY_er h4
    exact twrap_3 h hd hy hz hk.1 hk.2 h2 (Sough.resY_ok h3) h5 he
  · simp at hf
end
end Go.Proofs.Ytlfgempjjoclbaa
namespace Go.Proofs.Ytlfgempjjoclbaa
open Go.RowKit Go.Maps Go.ChangeMaps
def FirstTo (S : List Nat) (w0 : World) (p : Nat) (L : List (Nat × Obj)) (r : Sough.Res Sough.Sym) (e : Ending) (w' : World) : Prop := match r with
  | (s, .ok z) => ∃ t, e = .returned (.pointer (some ⟨t, 0, none⟩)) ∧ SF S w0 w' p s ((t, talkC p z) :: L)
  | (s, .error er) => e = .panicked (wrongP er) ∧ SF S w0 w' p s L
section
variable {S : List Nat} {w0 W : World} {p : Nat} {st : Sough.Store} {L : List (Nat × Obj)}
theorem SF.sbegin {y : Sough.Sym} {s : List UInt8} {er : Nat} {st' : Sough.Store} (h : SF S w0 W p st L) (hs : s.length ≤ 9223372036854775807) (hf : Sough.symBegin st s = (st', y, er)) : Calls Try.prog 53 #[.pointer (some ⟨p, 0, none⟩), .string ⟨s.toArray⟩] W fun e w' => e = .returned (.tuple #[.agg #[.int .i64 y.ck, .int .i64 y.k, .int .i64 y.h, .int .u64 y.n], .int .i64 er]) ∧ SF S w0 w' p st' L :=
  h.call (by have := Sough.symBegin_ok (s := s) h.ok hs; rw [hf] at this; exact this) fun S1 hs1 => sbegin_any W hs1 h.ok hs hf
end
theorem symBegin_wf {st s : Sough.Store} {l : List UInt8} {y : Sough.Sym} (h : st.Ok) (hf : Sough.resY (Sough.symBegin st l) = (s, .ok y)) : y.Wf := by
  have h1 := Sough.resY_ok hf
  have hn := Sough.put_name h ⟨1, l, 0, 0, 0, 0⟩
  unfold Sough.symBegin Sough.Store.putText at h1
  split at h1
  · rename_i h2
    simp only [Prod.mk.injEq] at h1
    exact absurd h1.2.2 h2
  · simp only [Prod.mk.injEq] at h1
    rw [← h1.2.1]
    exact ⟨Sough.i64_nat hn, Sough.i64_zero, Sough.i64_nat hn, by show (0 : Nat) < _; omega⟩
theorem idx2_0 (x : Int) (b : Value) (w : World) : (Instr.index 26 (.agg #[.int .i64 x, b]) (.int .i64 0)).run Try.prog w = .ok (.int .i64 x) w := by kernel_rfl
theorem idx2_1 (x : Int) (a : Value) (w : World) : (Instr.index 26 (.agg #[a, .int .i64 x]) (.int .i64 1)).run Try.prog w = .ok (.int .i64 x) w := by kernel_rfl
theorem conv1 (x : UInt8) (n : Int) (hn : (x.toNat : Int) = n) (w : World) : (convert 60 9 (.slice (some ⟨w.heap.size, 0, none⟩) 1 1)).run Try.prog (w.alloc (.cells #[.int .u8 n] 5)) = .ok (.string ⟨[x].toArray⟩) (w.alloc (.cells #[.int .u8 n] 5)) :=
  run_convert_bytes_back (P := Try.prog) _ 60 9 5 ⟨w.heap.size, 0, none⟩ 1 [x] Try.underlying60 Try.underlying5 Try.underlying9 (fun j hj => by
    obtain rfl : j = 0 := by simp at hj; omega
    have h := heap_alloc_new w (.cells #[.int .u8 n] 5)
    show World.cell? _ ⟨w.heap.size, 0, none⟩ = _
    simp only [World.cell?, h]
    rw [← hn]
    rfl)
set_option maxRecDepth 100000 in
set_option maxHeartbeats 3200000 in
theorem first_0 {S : List Nat} {w0 W : World} {p : Nat} {st : Sough.Store} {L : List (Nat × Obj)} {text : List UInt8} {a b : Int} {R : Sough.Res Sough.Sym} (h : SF S w0 W p st L) (ht : text.length ≤ 9223372036854775807) (ha : Sough.Int64 a) (hb : Sough.Int64 b) (hf : Sough.firstT st text 0 ⟨a, b⟩ = R) :
    Calls Try.prog 28 #[.pointer (some ⟨p, 0, none⟩), .string ⟨text.toArray⟩, .int .i64 0, .agg #[.int .i64 a, .int .i64 b]] W (FirstTo S w0 p L R) := by
  have HT := Lib.hid ht; have HA := Lib.hid ha; have HB := Lib.hid hb; have HO := Lib.hid h.ok
  have HR := Lib.hid hf
  unfold Sough.firstT at HR
  simp only [show Sough.slotText 0 = [48] from rfl] at HR
  have F0 := Lib.hid (h.alloc (.cells #[.int .i64 a, .int .i64 b] 24))
  clear h ht ha hb hf
  obtain ⟨s1, r1, h1⟩ : ∃ s r, Sough.resY (Sough.symBegin st Sough.sough) = (s, r) := ⟨_, _, rfl⟩
  have hconv := conv1 48 48 rfl
  have hmf : ∀ (fn : Fn) (first cap : Array Value) (w : World), (Instr.makeFunc fn first cap).run Try.prog w = .ok (.func fn first cap) w := fun _ _ _ _ => rfl
  have i0 := idx2_0
  have i1 := idx2_1
  go_enter Try.func28, Try.ntmps28
  go_wp2_with fail
  rcases r1 with er | y1
  · have hq := HR.out; simp only [h1, Sough.bnd] at hq
    obtain ⟨z, h2, he⟩ := Sough.resY_er h1
    have HE := Lib.hid he
    have CB := Lib.hid (F0.out.sbegin (by decide) h2)
    have HQ := Lib.hid hq
    clear h1 h2 he hq
    refine CB.out.mono ?_
    rintro e w1 ⟨rfl, g1⟩
    have F1 := Lib.hid ((g1.sub (List.sublist_cons_self _ _)).alloc (.cells #[.int .i64 z.ck, .int .i64 z.k, .int .i64 z.h, .int .u64 z.n] 36))
    clear g1 CB F0
    go_wp2_with fail
    refine (must_er HE.out _).mono ?_
    rintro e w2 ⟨rfl, rfl⟩
    exact ⟨rfl, by rw [← HQ.out]; exact ⟨rfl, F1.out.sub (List.sublist_cons_self _ _)⟩⟩
  have hq := HR.out; simp only [h1, Sough.bnd] at hq
  have HR1 := Lib.hid hq
  have HY1 := Lib.hid (symBegin_wf HO.out h1)
  have CB := Lib.hid (F0.out.sbegin (by decide) (Sough.resY_ok h1))
  clear hq HR h1
  refine CB.out.mono ?_
  rintro e w1 ⟨rfl, g1⟩
  have F1 := Lib.hid (((g1.alloc (.cells #[.int .i64 y1.ck, .int .i64 y1.k, .int .i64 y1.h, .int .u64 y1.n] 36)).alloc (talkC p y1)).sub (List.Sublist.cons_cons _ (List.sublist_cons_self _ _)))
  simp only [World.size_alloc] at F1
  clear g1 CB F0
  go_wp2_with fail
  refine (must_ok _).mono ?_
  rintro e w2 ⟨rfl, rfl⟩
  go_wp2_with fail
  have HO1 := Lib.hid F1.out.ok
  obtain ⟨s2, r2, h2⟩ : ∃ s r, Sough.textT s1 text = (s, r) := ⟨_, _, rfl⟩
  rcases r2 with er | x2
  · have hq := HR1.out; simp only [h2, Sough.bnd] at hq
    refine (textT_er F1.out HT.out h2).mono ?_
    rintro e w2 ⟨rfl, _, g⟩
    exact ⟨rfl, by rw [← hq]; exact ⟨rfl, g.sub ((List.sublist_cons_self _ _).trans (List.sublist_cons_self _ _))⟩⟩
  have hq := HR1.out; simp only [h2, Sough.bnd] at hq
  have HR2 := Lib.hid hq
  clear hq HR1
  have Hh2 := Lib.hid h2
  refine (textT_ok F1.out HT.out h2).mono ?_
  rintro e w2 ⟨rfl, g⟩
  have F2 := Lib.hid g
  clear g h2 F1
  have r := F2.out.mem.rules; simp only [AllCells, CellsAt, Nat.zero_add, Nat.reduceAdd, talkC] at r
  go_wp2_with fail
  clear r
  have HX2 := Lib.hid (Sough.textT_name HO1.out Hh2.out)
  have HO2 := Lib.hid F2.out.ok
  obtain ⟨s3, r3, h3⟩ : ∃ s r, Sough.hashT s2 y1 x2 = (s, r) := ⟨_, _, rfl⟩
  rcases r3 with er | y3
  · have hq := HR2.out; simp only [h3, Sough.bnd] at hq
    refine (hashT_er F2.out HY1.out HX2.out h3).mono ?_
    rintro e w3 ⟨rfl, _, g⟩
    exact ⟨rfl, by rw [← hq]; exact ⟨rfl, g.sub ((List.sublist_cons_self _ _).trans (List.sublist_cons_self _ _))⟩⟩
  have hq := HR2.out; simp only [h3, Sough.bnd] at hq
  have HR3 := Lib.hid hq
  clear hq HR2
  have Hh3 := Lib.hid h3
  refine (hashT_ok F2.out HY1.out HX2.out h3).mono ?_
  rintro e w3 ⟨rfl, g⟩
  have F3 := Lib.hid g
  clear g h3 F2
  have r := F3.out.mem.rules; simp only [AllCells, CellsAt, Nat.zero_add, Nat.reduceAdd, talkC] at r
  go_wp2_with fail
  clear r
  have HY3 := Lib.hid (Sough.hashT_wf HO2.out HY1.out Hh3.out)
  have F3' := Lib.hid (F3.out.later ((Below.refl _ _).alloc (Nat.le_refl _) (.cells #[.int .u8 48] 5)))
  clear F3
  have HO3 := Lib.hid F3'.out.ok
  obtain ⟨s4, r4, h4⟩ : ∃ s r, Sough.textT s3 [48] = (s, r) := ⟨_, _, rfl⟩
  rcases r4 with er | x4
  · have hq := HR3.out; simp only [h4, Sough.bnd] at hq
    refine (textT_er F3'.out (by simp) h4).mono ?_
    rintro e w4 ⟨rfl, _, g⟩
    exact ⟨rfl, by rw [← hq]; exact ⟨rfl, g.sub ((List.sublist_cons_self _ _).trans (List.sublist_cons_self _ _))⟩⟩
  have hq := HR3.out; simp only [h4, Sough.bnd] at hq
  have HR4 := Lib.hid hq
  clear hq HR3
  have Hh4 := Lib.hid h4
  refine (textT_ok F3'.out (by simp) h4).mono ?_
  rintro e w4 ⟨rfl, g⟩
  have F4 := Lib.hid g
  clear g h4 F3'
  have r := F4.out.mem.rules; simp only [AllCells, CellsAt, Nat.zero_add, Nat.reduceAdd, talkC] at r
  go_wp2_with fail
  clear r
  have HX4 := Lib.hid (Sough.textT_name HO3.out Hh4.out)
  have HO4 := Lib.hid F4.out.ok
  obtain ⟨s5, r5, h5⟩ : ∃ s r, Sough.hashT s4 y3 x4 = (s, r) := ⟨_, _, rfl⟩
  rcases r5 with er | y5
  · have hq := HR4.out; simp only [h5, Sough.bnd] at hq
    refine (hashT_er F4.out HY3.out HX4.out h5).mono ?_
    rintro e w5 ⟨rfl, _, g⟩
    exact ⟨rfl, by rw [← hq]; exact ⟨rfl, g.sub ((List.sublist_cons_self _ _).trans (List.sublist_cons_self _ _))⟩⟩
  have hq := HR4.out; simp only [h5, Sough.bnd] at hq
  have HR5 := Lib.hid hq
  clear hq HR4
  have Hh5 := Lib.hid h5
  refine (hashT_ok F4.out HY3.out HX4.out h5).mono ?_
  rintro e w5 ⟨rfl, g⟩
  have F5 := Lib.hid g
  clear g h5 F4
  have r := F5.out.mem.rules; simp only [AllCells, CellsAt, Nat.zero_add, Nat.reduceAdd, talkC] at r
  go_wp2_with fail
  clear r
  have HY5 := Lib.hid (Sough.hashT_wf HO4.out HY3.out Hh5.out)
  refine wp_loop_rounds 3 ?_
  simp only [rounds_succ]
  go_wp2_with fail
  have HO5 := Lib.hid F5.out.ok
  obtain ⟨s6, r6, h6⟩ : ∃ s r, Sough.hashT s5 y5 a = (s, r) := ⟨_, _, rfl⟩
  rcases r6 with er | y6
  · have hq := HR5.out; simp only [h6, Sough.bnd] at hq
    refine (hashT_er F5.out HY5.out HA.out h6).mono ?_
    rintro e w6 ⟨rfl, _, g⟩
    exact ⟨rfl, by rw [← hq]; exact ⟨rfl, g.sub ((List.sublist_cons_self _ _).trans (List.sublist_cons_self _ _))⟩⟩
  have hq := HR5.out; simp only [h6, Sough.bnd] at hq
  have HR6 := Lib.hid hq
  clear hq HR5
  have Hh6 := Lib.hid h6
  refine (hashT_ok F5.out HY5.out HA.out h6).mono ?_
  rintro e w6 ⟨rfl, g⟩
  have F6 := Lib.hid g
  clear g h6 F5
  have r := F6.out.mem.rules; simp only [AllCells, CellsAt, Nat.zero_add, Nat.reduceAdd, talkC] at r
  go_wp2_with fail
  clear r
  have HY6 := Lib.hid (Sough.hashT_wf HO5.out HY5.out Hh6.out)
  simp only [rounds_succ]
  go_wp2_with fail
  obtain ⟨s7, r7, h7⟩ : ∃ s r, Sough.hashT s6 y6 b = (s, r) := ⟨_, _, rfl⟩
  rcases r7 with er | y7
  · have hq : Sough.hashT s6 y6 b = R := HR6.out
    rw [h7] at hq
    refine (hashT_er F6.out HY6.out HB.out h7).mono ?_
    rintro e w7 ⟨rfl, _, g⟩
    exact ⟨rfl, by rw [← hq]; exact ⟨rfl, g.sub ((List.sublist_cons_self _ _).trans (List.sublist_cons_self _ _))⟩⟩
  have hq : Sough.hashT s6 y6 b = R := HR6.out
  rw [h7] at hq
  have HR7 := Lib.hid hq
  clear hq
  refine (hashT_ok F6.out HY6.out HB.out h7).mono ?_
  rintro e w7 ⟨rfl, g⟩
  have F7 := Lib.hid g
  clear g h7 F6
  simp only [rounds_succ]
  go_wp2_with fail
  simp only [rounds_succ]
  go_wp2_with fail
  go_ret
  rw [← HR7.out]
  exact ⟨_, rfl, F7.out.sub (List.Sublist.cons_cons _ (List.sublist_cons_self _ _))⟩
set_option maxRecDepth 100000 in
set_option maxHeartbeats 3200000 in
theorem first_1 {S : List Nat} {w0 W : World} {p : Nat} {st : Sough.Store} {L : List (Nat × Obj)} {text : List UInt8} {a b : Int} {R : Sough.Res Sough.Sym} (h : SF S w0 W p st L) (ht : text.length ≤ 9223372036854775807) (ha : Sough.Int64 a) (hb : Sough.Int64 b) (hf : Sough.firstT st text 1 ⟨a, b⟩ = R) :
    Calls Try.prog 28 #[.pointer (some ⟨p, 0, none⟩), .string ⟨text.toArray⟩, .int .i64 1, .agg #[.int .i64 a, .int .i64 b]] W (FirstTo S w0 p L R) := by
  have HT := Lib.hid ht; have HA := Lib.hid ha; have HB := Lib.hid hb; have HO := Lib.hid h.ok
  have HR := Lib.hid hf
  unfold Sough.firstT at HR
  simp only [show Sough.slotText 1 = [49] from rfl] at HR
  have F0 := Lib.hid (h.alloc (.cells #[.int .i64 a, .int .i64 b] 24))
  clear h ht ha hb hf
  obtain ⟨s1, r1, h1⟩ : ∃ s r, Sough.resY (Sough.symBegin st Sough.sough) = (s, r) := ⟨_, _, rfl⟩
  have hconv := conv1 49 49 rfl
  have hmf : ∀ (fn : Fn) (first cap : Array Value) (w : World), (Instr.makeFunc fn first cap).run Try.prog w = .ok (.func fn first cap) w := fun _ _ _ _ => rfl
  have i0 := idx2_0
  have i1 := idx2_1
  go_enter Try.func28, Try.ntmps28
  go_wp2_with fail
  rcases r1 with er | y1
  · have hq := HR.out; simp only [h1, Sough.bnd] at hq
    obtain ⟨z, h2, he⟩ := Sough.resY_er h1
    have HE := Lib.hid he
    have CB := Lib.hid (F0.out.sbegin (by decide) h2)
    have HQ := Lib.hid hq
    clear h1 h2 he hq
    refine CB.out.mono ?_
    rintro e w1 ⟨rfl, g1⟩
    have F1 := Lib.hid ((g1.sub (List.sublist_cons_self _ _)).alloc (.cells #[.int .i64 z.ck, .int .i64 z.k, .int .i64 z.h, .int .u64 z.n] 36))
    clear g1 CB F0
    go_wp2_with fail
    refine (must_er HE.out _).mono ?_
    rintro e w2 ⟨rfl, rfl⟩
    exact ⟨rfl, by rw [← HQ.out]; exact ⟨rfl, F1.out.sub (List.sublist_cons_self _ _)⟩⟩
  have hq := HR.out; simp only [h1, Sough.bnd] at hq
  have HR1 := Lib.hid hq
  have HY1 := Lib.hid (symBegin_wf HO.out h1)
  have CB := Lib.hid (F0.out.sbegin (by decide) (Sough.resY_ok h1))
  clear hq HR h1
  refine CB.out.mono ?_
  rintro e w1 ⟨rfl, g1⟩
  have F1 := Lib.hid (((g1.alloc (.cells #[.int .i64 y1.ck, .int .i64 y1.k, .int .i64 y1.h, .int .u64 y1.n] 36)).alloc (talkC p y1)).sub (List.Sublist.cons_cons _ (List.sublist_cons_self _ _)))
  simp only [World.size_alloc] at F1
  clear g1 CB F0
  go_wp2_with fail
  refine (must_ok _).mono ?_
  rintro e w2 ⟨rfl, rfl⟩
  go_wp2_with fail
  have HO1 := Lib.hid F1.out.ok
  obtain ⟨s2, r2, h2⟩ : ∃ s r, Sough.textT s1 text = (s, r) := ⟨_, _, rfl⟩
  rcases r2 with er | x2
  · have hq := HR1.out; simp only [h2, Sough.bnd] at hq
    refine (textT_er F1.out HT.out h2).mono ?_
    rintro e w2 ⟨rfl, _, g⟩
    exact ⟨rfl, by rw [← hq]; exact ⟨rfl, g.sub ((List.sublist_cons_self _ _).trans (List.sublist_cons_self _ _))⟩⟩
  have hq := HR1.out; simp only [h2, Sough.bnd] at hq
  have HR2 := Lib.hid hq
  clear hq HR1
  have Hh2 := Lib.hid h2
  refine (textT_ok F1.out HT.out h2).mono ?_
  rintro e w2 ⟨rfl, g⟩
  have F2 := Lib.hid g
  clear g h2 F1
  have r := F2.out.mem.rules; simp only [AllCells, CellsAt, Nat.zero_add, Nat.reduceAdd, talkC] at r
  go_wp2_with fail
  clear r
  have HX2 := Lib.hid (Sough.textT_name HO1.out Hh2.out)
  have HO2 := Lib.hid F2.out.ok
  obtain ⟨s3, r3, h3⟩ : ∃ s r, Sough.hashT s2 y1 x2 = (s, r) := ⟨_, _, rfl⟩
  rcases r3 with er | y3
  · have hq := HR2.out; simp only [h3, Sough.bnd] at hq
    refine (hashT_er F2.out HY1.out HX2.out h3).mono ?_
    rintro e w3 ⟨rfl, _, g⟩
    exact ⟨rfl, by rw [← hq]; exact ⟨rfl, g.sub ((List.sublist_cons_self _ _).trans (List.sublist_cons_self _ _))⟩⟩
  have hq := HR2.out; simp only [h3, Sough.bnd] at hq
  have HR3 := Lib.hid hq
  clear hq HR2
  have Hh3 := Lib.hid h3
  refine (hashT_ok F2.out HY1.out HX2.out h3).mono ?_
  rintro e w3 ⟨rfl, g⟩
  have F3 := Lib.hid g
  clear g h3 F2
  have r := F3.out.mem.rules; simp only [AllCells, CellsAt, Nat.zero_add, Nat.reduceAdd, talkC] at r
  go_wp2_with fail
  clear r
  have HY3 := Lib.hid (Sough.hashT_wf HO2.out HY1.out Hh3.out)
  have F3' := Lib.hid (F3.out.later ((Below.refl _ _).alloc (Nat.le_refl _) (.cells #[.int .u8 49] 5)))
  clear F3
  have HO3 := Lib.hid F3'.out.ok
  obtain ⟨s4, r4, h4⟩ : ∃ s r, Sough.textT s3 [49] = (s, r) := ⟨_, _, rfl⟩
  rcases r4 with er | x4
  · have hq := HR3.out; simp only [h4, Sough.bnd] at hq
    refine (textT_er F3'.out (by simp) h4).mono ?_
    rintro e w4 ⟨rfl, _, g⟩
    exact ⟨rfl, by rw [← hq]; exact ⟨rfl, g.sub ((List.sublist_cons_self _ _).trans (List.sublist_cons_self _ _))⟩⟩
  have hq := HR3.out; simp only [h4, Sough.bnd] at hq
  have HR4 := Lib.hid hq
  clear hq HR3
  have Hh4 := Lib.hid h4
  refine (textT_ok F3'.out (by simp) h4).mono ?_
  rintro e w4 ⟨rfl, g⟩
  have F4 := Lib.hid g
  clear g h4 F3'
  have r := F4.out.mem.rules; simp only [AllCells, CellsAt, Nat.zero_add, Nat.reduceAdd, talkC] at r
  go_wp2_with fail
  clear r
  have HX4 := Lib.hid (Sough.textT_name HO3.out Hh4.out)
  have HO4 := Lib.hid F4.out.ok
  obtain ⟨s5, r5, h5⟩ : ∃ s r, Sough.hashT s4 y3 x4 = (s, r) := ⟨_, _, rfl⟩
  rcases r5 with er | y5
  · have hq := HR4.out; simp only [h5, Sough.bnd] at hq
    refine (hashT_er F4.out HY3.out HX4.out h5).mono ?_
    rintro e w5 ⟨rfl, _, g⟩
    exact ⟨rfl, by rw [← hq]; exact ⟨rfl, g.sub ((List.sublist_cons_self _ _).trans (List.sublist_cons_self _ _))⟩⟩
  have hq := HR4.out; simp only [h5, Sough.bnd] at hq
  have HR5 := Lib.hid hq
  clear hq HR4
  have Hh5 := Lib.hid h5
  refine (hashT_ok F4.out HY3.out HX4.out h5).mono ?_
  rintro e w5 ⟨rfl, g⟩
  have F5 := Lib.hid g
  clear g h5 F4
  have r := F5.out.mem.rules; simp only [AllCells, CellsAt, Nat.zero_add, Nat.reduceAdd, talkC] at r
  go_wp2_with fail
  clear r
  have HY5 := Lib.hid (Sough.hashT_wf HO4.out HY3.out Hh5.out)
  refine wp_loop_rounds 3 ?_
  simp only [rounds_succ]
  go_wp2_with fail
  have HO5 := Lib.hid F5.out.ok
  obtain ⟨s6, r6, h6⟩ : ∃ s r, Sough.hashT s5 y5 a = (s, r) := ⟨_, _, rfl⟩
  rcases r6 with er | y6
  · have hq := HR5.out; simp only [h6, Sough.bnd] at hq
    refine (hashT_er F5.out HY5.out HA.out h6).mono ?_
    rintro e w6 ⟨rfl, _, g⟩
    exact ⟨rfl, by rw [← hq]; exact ⟨rfl, g.sub ((List.sublist_cons_self _ _).trans (List.sublist_cons_self _ _))⟩⟩
  have hq := HR5.out; simp only [h6, Sough.bnd] at hq
  have HR6 := Lib.hid hq
  clear hq HR5
  have Hh6 := Lib.hid h6
  refine (hashT_ok F5.out HY5.out HA.out h6).mono ?_
  rintro e w6 ⟨rfl, g⟩
  have F6 := Lib.hid g
  clear g h6 F5
  have r := F6.out.mem.rules; simp only [AllCells, CellsAt, Nat.zero_add, Nat.reduceAdd, talkC] at r
  go_wp2_with fail
  clear r
  have HY6 := Lib.hid (Sough.hashT_wf HO5.out HY5.out Hh6.out)
  simp only [rounds_succ]
  go_wp2_with fail
  obtain ⟨s7, r7, h7⟩ : ∃ s r, Sough.hashT s6 y6 b = (s, r) := ⟨_, _, rfl⟩
  rcases r7 with er | y7
  · have hq : Sough.hashT s6 y6 b = R := HR6.out
    rw [h7] at hq
    refine (hashT_er F6.out HY6.out HB.out h7).mono ?_
    rintro e w7 ⟨rfl, _, g⟩
    exact ⟨rfl, by rw [← hq]; exact ⟨rfl, g.sub ((List.sublist_cons_self _ _).trans (List.sublist_cons_self _ _))⟩⟩
  have hq : Sough.hashT s6 y6 b = R := HR6.out
  rw [h7] at hq
  have HR7 := Lib.hid hq
  clear hq
  refine (hashT_ok F6.out HY6.out HB.out h7).mono ?_
  rintro e w7 ⟨rfl, g⟩
  have F7 := Lib.hid g
  clear g h7 F6
  simp only [rounds_succ]
  go_wp2_with fail
  simp only [rounds_succ]
  go_wp2_with fail
  go_ret
  rw [← HR7.out]
  exact ⟨_, rfl, F7.out.sub (List.Sublist.cons_cons _ (List.sublist_cons_self _ _))⟩
theorem first_any {S : List Nat} {w0 W : World} {p : Nat} {st : Sough.Store} {L : List (Nat × Obj)} {text : List UInt8} {slot : Int} {a b : Int} {R : Sough.Res Sough.Sym} (h : SF S w0 W p st L) (ht : text.length ≤ 9223372036854775807) (hs : slot = 0 ∨ slot = 1) (ha : Sough.Int64 a) (hb : Sough.Int64 b) (hf : Sough.firstT st text slot ⟨a, b⟩ = R) :
    Calls Try.prog 28 #[.pointer (some ⟨p, 0, none⟩), .string ⟨text.toArray⟩, .int .i64 slot, .agg #[.int .i64 a, .int .i64 b]] W (FirstTo S w0 p L R) := by
  rcases hs with rfl | rfl
  · exact first_0 h ht ha hb hf
  · exact first_1 h ht ha hb hf
end Go.Proofs.Ytlfgempjjoclbaa
namespace Go.Proofs.Ytlfgempjjoclbaa
open Go.RowKit Go.Maps Go.ChangeMaps
section
variable {S : List Nat} {w0 W : World} {p : Nat} {st : Sough.Store} {A B L : List (Nat × Obj)}
theorem SF.setMid {k : Nat} {cs : Array Value} {T : TypeId} (h : SF S w0 W p st (A ++ (k, .cells cs T (0, 0)) :: B)) (i : Nat) (v : Value) : SF S w0 (W.setCell ⟨k, i, none⟩ v) p st (A ++ (k, .cells (cs.setIfInBounds i v) T (0, 0)) :: B) :=
  ((h.perm List.perm_middle).set i v).perm List.perm_middle.symm
end
theorem door_ret {fn : Func} {tmps : Array Value} {R : Ending → World → Prop} {a : Addr} {cap : Array Value} {w : World} (hc : cap = #[])
    (h : ∃ v, (results fn tmps).run Try.prog (w.alloc (.cells #[.int .i64 0] 120)) = .ok v (w.alloc (.cells #[.int .i64 0] 120)) ∧ R (.returned v) (w.alloc (.cells #[.int .i64 0] 120))) :
    Leaves Try.prog fn tmps R [{ target := .fn (.func 26) cap, args := #[.pointer (some a)] }] .returning w := by
  subst hc
  refine leaves_cons (f := 26) (args := #[.pointer (some a)]) (by simp) (by simp [go_sem]) ?_
  refine (ended_idle a w).mono ?_
  rintro e u' w'' ⟨rfl, rfl, rfl⟩
  exact h
theorem door_panic {fn : Func} {tmps : Array Value} {R : Ending → World → Prop} {a : Addr} {old : Value} {cap : Array Value} {er : Nat} {w : World} (hc : cap = #[]) (hco : w.cell? a = some old) (hz : w.frozen? a = false)
    (h : ∃ v, (results fn tmps).run Try.prog ((w.alloc (.cells #[.int .i64 er] 120)).setCell a (.int .i64 er)) = .ok v ((w.alloc (.cells #[.int .i64 er] 120)).setCell a (.int .i64 er)) ∧ R (.returned v) ((w.alloc (.cells #[.int .i64 er] 120)).setCell a (.int .i64 er))) :
    Leaves Try.prog fn tmps R [{ target := .fn (.func 26) cap, args := #[.pointer (some a)] }] (.panicking (wrongP er)) w := by
  subst hc
  refine leaves_cons (f := 26) (args := #[.pointer (some a)]) (by simp) (by simp [go_sem]) ?_
  refine (ended_panicking a old er [] w hco hz).mono ?_
  rintro e u' w'' ⟨rfl, rfl, rfl⟩
  exact h
end Go.Proofs.Ytlfgempjjoclbaa
namespace Go.Proofs.Ytlfgempjjoclbaa
open Go.RowKit Go.Maps Go.ChangeMaps
def PubTo (S : List Nat) (w0 : World) (p : Nat) (L : List (Nat × Obj)) (r : Sough.Res Sough.Pair) (e : Ending) (w' : World) : Prop := match r with
  | (s, .ok z) => e = .returned (.tuple #[.agg #[.int .i64 z.dh, .int .i64 z.kem], .int .i64 0]) ∧ SF S w0 w' p s L
  | (s, .error er) => e = .returned (.tuple #[.agg #[.int .i64 0, .int .i64 0], .int .i64 er]) ∧ SF S w0 w' p s L
set_option maxRecDepth 100000 in
set_option maxHeartbeats 1600000 in
theorem pub_ok {S : List Nat} {w0 W : World} {p : Nat} {st s1 s2 : Sough.Store} {L : List (Nat × Obj)} {a b : Int} {x1 x2 : Int} (h : SF S w0 W p st L) (ha : Sough.Int64 a) (hb : Sough.Int64 b) (hf : Sough.publicT st a = (s1, .ok x1)) (hg : Sough.wrappingT s1 b = (s2, .ok x2)) :
    Calls Try.prog 25 #[.pointer (some ⟨p, 0, none⟩), .agg #[.int .i64 a, .int .i64 b]] W (PubTo S w0 p L (s2, .ok ⟨x1, x2⟩)) := by
  have HF := Lib.hid hf
  clear hf
  have HG := Lib.hid hg
  clear hg
  have F0 := Lib.hid ((((h.alloc (.cells #[.int .i64 a, .int .i64 b] 24)).alloc (.cells #[.int .i64 0, .int .i64 0] 24)).alloc (.cells #[.int .i64 0] 39)).alloc (talkC p Sough.zeroY))
  simp only [World.size_alloc] at F0
  have HA := Lib.hid ha; have HB := Lib.hid hb
  clear h ha hb
  go_enter_defers Try.func25, Try.ntmps25
  go_wp2_with fail
  refine wp_vals (n := 19) (fun k => match k with
    | 0 => some (.pointer (some ⟨W.heap.size + 1 + 1 + 1, 0, none⟩))
    | 1 => some (.pointer (some ⟨W.heap.size, 0, none⟩))
    | 2 => some (.int .i64 a)
    | 4 => some (.pointer (some ⟨W.heap.size + 1 + 1 + 1, 0, none⟩))
    | 5 => some (.pointer (some ⟨W.heap.size, 1, none⟩))
    | 6 => some (.int .i64 b)
    | 8 => some (.agg #[.int .i64 x1, .int .i64 x2])
    | _ => none) (fun L' v x => SF S w0 x p (if L' 7 = true then s2 else if L' 3 = true then s1 else st) ((W.heap.size + 1 + 1 + 1, talkC p Sough.zeroY) :: (W.heap.size + 1 + 1, .cells #[.int .i64 0] 39 (0, 0)) :: (W.heap.size + 1, .cells (if L' 9 = true then #[.int .i64 x1, .int .i64 x2] else #[.int .i64 0, .int .i64 0]) 24 (0, 0)) :: (W.heap.size, .cells #[.int .i64 a, .int .i64 b] 24 (0, 0)) :: L) ∧ (L' 3 = true → v 3 = .int .i64 x1) ∧ (L' 7 = true → v 7 = .int .i64 x2) ∧ (L' 9 = true → L' 7 = true) ∧ (L' 7 = true → L' 3 = true)) (by kernel_rfl) (by kernel_rfl) ?_ ?_ ?_ ?_
  · intro L' v hL
    have e3 := hL 3 (by simp)
    have e7 := hL 7 (by simp)
    have e9 := hL 9 (by simp)
    refine ⟨?_, fun h => (by rw [e3] at h; cases h), fun h => (by rw [e7] at h; cases h), fun h => (by rw [e9] at h; cases h), fun h => (by rw [e7] at h; cases h)⟩
    rw [e3, e7, e9]
    exact F0.out.later (Below.refl _ _).drew
  · intro L1 L2 v v' x hk hM
    obtain ⟨h1, h2, h3, h4, h5⟩ := hM
    have e3 := hk 3 (by simp) rfl
    have e7 := hk 7 (by simp) rfl
    have e9 := hk 9 (by simp) rfl
    refine ⟨?_, fun h => ?_, fun h => ?_, fun h => ?_, fun h => ?_⟩
    · rw [← e3.1, ← e7.1, ← e9.1]; exact h1
    · have h' := e3.1.trans h; exact (e3.2 h').symm.trans (h2 h')
    · have h' := e7.1.trans h; exact (e7.2 h').symm.trans (h3 h')
    · rw [← e7.1]; exact h4 (e9.1.trans h)
    · rw [← e3.1]; exact h5 (e7.1.trans h)
  · refine ⟨?_, ?_, ?_, ?_, ?_, ?_, ?_, ?_, ?_, ?_, ?_, trivial⟩
    · intro L' v x hLk hW hF hbk hM
      refine ⟨wanted_none rfl, ?_⟩
      simp only [putAll, Act.put, List.setIfInBounds_toArray, List.set_cons_succ, List.set_cons_zero]
      refine vstep_pure rfl (fun q hb => ⟨rfl, ⟨hM.1.later hb, hM.2⟩⟩) ?_
      go_big_quiet_step (fail)
      exact wpQuiet_nil rfl
    · intro L' v x hLk hW hF hbk hM
      refine ⟨wanted_none rfl, ?_⟩
      simp only [putAll, Act.put, List.setIfInBounds_toArray, List.set_cons_succ, List.set_cons_zero]
      refine vstep_pure rfl (fun q hb => ⟨rfl, ⟨hM.1.later hb, hM.2⟩⟩) ?_
      go_big_quiet_step (fail)
      exact wpQuiet_nil rfl
    · intro L' v x hLk hW hF hbk hM
      have e1 : v 1 = .pointer (some ⟨W.heap.size, 0, none⟩) := hF 1 _ (by decide) rfl
      have hc := hM.1.get 3 rfl
      have y0 : ∀ z : Later x, z.world.cell? ⟨W.heap.size, 0, none⟩ = some (.int .i64 a) := fun z => z.cell (by simp [World.cell?, hc])
      clear hc
      refine ⟨wanted_none rfl, ?_⟩
      simp only [putAll, Act.put, List.setIfInBounds_toArray, List.set_cons_succ, List.set_cons_zero, e1]
      refine vstep_pure rfl (fun q hb => ⟨rfl, ⟨hM.1.later hb, hM.2⟩⟩) ?_
      go_big_quiet_step (fail)
      exact wpQuiet_nil rfl
    · intro L' v x hLk hW hF hbk hM
      have e0 : v 0 = .pointer (some ⟨W.heap.size + 1 + 1 + 1, 0, none⟩) := hF 0 _ (by decide) rfl
      have e2 : v 2 = .int .i64 a := hF 2 _ (by decide) rfl
      obtain ⟨h1, h2, h3, h4, h5⟩ := hM
      have e7 : L' 7 = false := by
        cases hc : L' 7 with
        | false => rfl
        | true => have := h5 hc; rw [hLk] at this; cases this
      have e9 : L' 9 = false := by
        cases hc : L' 9 with
        | false => rfl
        | true => have := h4 hc; rw [e7] at this; cases this
      rw [e7, hLk, e9] at h1
      have CC := Lib.hid (publicT_ok h1 HA.out HF.out)
      refine ⟨wanted_none rfl, ?_⟩
      simp only [putAll, Act.put, List.setIfInBounds_toArray, List.set_cons_succ, List.set_cons_zero, e0, e2]
      refine vstep_call (fun q => SF S w0 q p s1 ((W.heap.size + 1 + 1 + 1, talkC p Sough.zeroY) :: (W.heap.size + 1 + 1, .cells #[.int .i64 0] 39 (0, 0)) :: (W.heap.size + 1, .cells #[.int .i64 0, .int .i64 0] 24 (0, 0)) :: (W.heap.size, .cells #[.int .i64 a, .int .i64 b] 24 (0, 0)) :: L)) (fun q hq => ⟨.int .i64 x1, rfl, by simp only [Nat.zero_add, Nat.reduceAdd, Nat.reduceBEq, beq_self_eq_true, Bool.or_true, Bool.or_false, Nat.reduceEqDiff, if_true, if_false, reduceIte]; rw [e7, e9]; exact ⟨hq, fun _ => by first | trivial | rfl | assumption, fun h => (by cases h), fun h => (by cases h), fun h => (by cases h)⟩⟩) ?_
      unfold Oper.wp
      go_simp
      refine CC.out.mono ?_
      rintro e q ⟨rfl, hq⟩
      exact ⟨rfl, hq⟩
    · intro L' v x hLk hW hF hbk hM
      refine ⟨wanted_none rfl, ?_⟩
      simp only [putAll, Act.put, List.setIfInBounds_toArray, List.set_cons_succ, List.set_cons_zero]
      refine vstep_pure rfl (fun q hb => ⟨rfl, ⟨hM.1.later hb, hM.2⟩⟩) ?_
      go_big_quiet_step (fail)
      exact wpQuiet_nil rfl
    · intro L' v x hLk hW hF hbk hM
      refine ⟨wanted_none rfl, ?_⟩
      simp only [putAll, Act.put, List.setIfInBounds_toArray, List.set_cons_succ, List.set_cons_zero]
      refine vstep_pure rfl (fun q hb => ⟨rfl, ⟨hM.1.later hb, hM.2⟩⟩) ?_
      go_big_quiet_step (fail)
      exact wpQuiet_nil rfl
    · intro L' v x hLk hW hF hbk hM
      have e5 : v 5 = .pointer (some ⟨W.heap.size, 1, none⟩) := hF 5 _ (by decide) rfl
      have hc := hM.1.get 3 rfl
      have y0 : ∀ z : Later x, z.world.cell? ⟨W.heap.size, 1, none⟩ = some (.int .i64 b) := fun z => z.cell (by simp [World.cell?, hc])
      clear hc
      refine ⟨wanted_none rfl, ?_⟩
      simp only [putAll, Act.put, List.setIfInBounds_toArray, List.set_cons_succ, List.set_cons_zero, e5]
      refine vstep_pure rfl (fun q hb => ⟨rfl, ⟨hM.1.later hb, hM.2⟩⟩) ?_
      go_big_quiet_step (fail)
      exact wpQuiet_nil rfl
    · intro L' v x hLk hW hF hbk hM
      have e4 : v 4 = .pointer (some ⟨W.heap.size + 1 + 1 + 1, 0, none⟩) := hF 4 _ (by decide) rfl
      have e6 : v 6 = .int .i64 b := hF 6 _ (by decide) rfl
      have n3 := hW 3 (by decide)
      obtain ⟨h1, h2, h3, h4, h5⟩ := hM
      have e9 : L' 9 = false := by
        cases hc : L' 9 with
        | false => rfl
        | true => have := h4 hc; rw [hLk] at this; cases this
      rw [n3, hLk, e9] at h1
      have h2 := h2 n3
      have CC := Lib.hid (wrappingT_ok h1 HB.out HG.out)
      refine ⟨wanted_none rfl, ?_⟩
      simp only [putAll, Act.put, List.setIfInBounds_toArray, List.set_cons_succ, List.set_cons_zero, e4, e6]
      refine vstep_call (fun q => SF S w0 q p s2 ((W.heap.size + 1 + 1 + 1, talkC p Sough.zeroY) :: (W.heap.size + 1 + 1, .cells #[.int .i64 0] 39 (0, 0)) :: (W.heap.size + 1, .cells #[.int .i64 0, .int .i64 0] 24 (0, 0)) :: (W.heap.size, .cells #[.int .i64 a, .int .i64 b] 24 (0, 0)) :: L)) (fun q hq => ⟨.int .i64 x2, rfl, by simp only [Nat.zero_add, Nat.reduceAdd, Nat.reduceBEq, beq_self_eq_true, Bool.or_true, Bool.or_false, Nat.reduceEqDiff, if_true, if_false, reduceIte]; rw [n3, e9]; exact ⟨hq, fun _ => h2, fun _ => by first | trivial | rfl | assumption, fun h => (by cases h), fun _ => by first | trivial | rfl | assumption⟩⟩) ?_
      unfold Oper.wp
      go_simp
      refine CC.out.mono ?_
      rintro e q ⟨rfl, hq⟩
      exact ⟨rfl, hq⟩
    · intro L' v x hLk hW hF hbk hM
      have e3 := hM.2.1 (hW 3 (by decide))
      have e7 := hM.2.2.1 (hW 7 (by decide))
      refine ⟨wanted_none rfl, ?_⟩
      simp only [putAll, Act.put, List.setIfInBounds_toArray, List.set_cons_succ, List.set_cons_zero, e3, e7]
      refine vstep_pure rfl (fun q hb => ⟨rfl, hM.1.later hb, fun _ => by first | trivial | exact e3, fun _ => by first | trivial | exact e7, hM.2.2.2⟩) ?_
      go_big_quiet_step (fail)
      exact wpQuiet_nil rfl
    · intro L' v x hLk hW hF hbk hM
      have e8 : v 8 = .agg #[.int .i64 x1, .int .i64 x2] := hF 8 _ (by decide) rfl
      have n7 := hW 7 (by decide)
      have n3 := hW 3 (by decide)
      obtain ⟨h1, h2, h3, h4, h5⟩ := hM
      rw [n7, hLk] at h1
      have hc := h1.get 2 rfl
      have c0 : x.cell? ⟨W.heap.size + 1, 0, none⟩ = some (.int .i64 0) ∧ x.cell? ⟨W.heap.size + 1, 1, none⟩ = some (.int .i64 0) ∧ x.frozen? ⟨W.heap.size + 1, 0, none⟩ = false ∧ x.frozen? ⟨W.heap.size + 1, 1, none⟩ = false := by simp [World.cell?, World.frozen?, hc]
      have HS := Lib.hid (SF.setMid (A := [_, _]) (SF.setMid (A := [_, _]) h1 0 (.int .i64 x1)) 1 (.int .i64 x2))
      clear h1 hc
      refine ⟨wanted_none rfl, ?_⟩
      simp only [putAll, Act.put, List.setIfInBounds_toArray, List.set_cons_succ, List.set_cons_zero, e8]
      refine vstep_one (W := (x.setCell ⟨W.heap.size + 1, 0, none⟩ (.int .i64 x1)).setCell ⟨W.heap.size + 1, 1, none⟩ (.int .i64 x2)) ⟨undef, rfl, by simp only [Nat.zero_add, Nat.reduceAdd, Nat.reduceBEq, beq_self_eq_true, Bool.or_true, Bool.or_false, Nat.reduceEqDiff, if_true, if_false, reduceIte]; rw [n7, n3]; exact ⟨HS.out, fun _ => h2 n3, fun _ => h3 n7, fun _ => by first | trivial | rfl | assumption, fun _ => by first | trivial | rfl | assumption⟩⟩ ?_
      unfold Oper.wp
      go_simp
    · intro L' v x hLk hW hF hbk hM
      have n9 := hW 9 (by decide)
      obtain ⟨h1, h2, h3, h4, h5⟩ := hM
      have hc := h1.get 1 rfl
      have c0 : x.cell? ⟨W.heap.size + 1 + 1, 0, none⟩ = some (.int .i64 0) ∧ x.frozen? ⟨W.heap.size + 1 + 1, 0, none⟩ = false := by simp [World.cell?, World.frozen?, hc]
      have HS := Lib.hid (SF.setMid (A := [_]) h1 0 (.int .i64 0))
      clear h1 hc
      refine ⟨wanted_none rfl, ?_⟩
      simp only [putAll, Act.put, List.setIfInBounds_toArray, List.set_cons_succ, List.set_cons_zero]
      refine vstep_one (W := x.setCell ⟨W.heap.size + 1 + 1, 0, none⟩ (.int .i64 0)) ⟨undef, rfl, by simp only [Nat.zero_add, Nat.reduceAdd, Nat.reduceBEq, beq_self_eq_true, Bool.or_true, Bool.or_false, Nat.reduceEqDiff, if_true, if_false, reduceIte]; exact ⟨HS.out, h2, h3, h4, h5⟩⟩ ?_
      unfold Oper.wp
      go_simp
  · intro L' v x hL hF hM
    obtain ⟨h1, _⟩ := hM
    rw [hL 3 (by simp), hL 7 (by simp), hL 9 (by simp)] at h1
    have F1 : Hid (SF S w0 x p s2 ((W.heap.size + 1 + 1 + 1, talkC p Sough.zeroY) :: (W.heap.size + 1 + 1, .cells #[.int .i64 0] 39 (0, 0)) :: (W.heap.size + 1, .cells #[.int .i64 x1, .int .i64 x2] 24 (0, 0)) :: (W.heap.size, .cells #[.int .i64 a, .int .i64 b] 24 (0, 0)) :: L)) := Lib.hid h1
    clear h1 hF hL F0
    simp only [putAll, Act.put, List.setIfInBounds_toArray, List.set_cons_succ, List.set_cons_zero]
    go_wp2_with fail
    refine door_ret rfl ?_
    have F2 := Lib.hid (F1.out.later ((Below.refl _ _).alloc (Nat.le_refl _) (.cells #[.int .i64 0] 120)))
    have g0 := F2.out.get 1 rfl
    have g1 := F2.out.get 2 rfl
    refine ⟨.tuple #[.agg #[.int .i64 x1, .int .i64 x2], .int .i64 0], ?_, rfl, ?_⟩
    · simp [results, Try.results25, go_sem, World.cell?, g0, g1]
    · exact F2.out.sub ((List.sublist_cons_self _ _).trans ((List.sublist_cons_self _ _).trans ((List.sublist_cons_self _ _).trans (List.sublist_cons_self _ _))))
set_option maxRecDepth 100000 in
set_option maxHeartbeats 1600000 in
theorem pub_e1 {S : List Nat} {w0 W : World} {p : Nat} {st s1 : Sough.Store} {L : List (Nat × Obj)} {a b : Int} {er : Nat} (h : SF S w0 W p st L) (ha : Sough.Int64 a) (hb : Sough.Int64 b) (hf : Sough.publicT st a = (s1, .error er)) :
    Calls Try.prog 25 #[.pointer (some ⟨p, 0, none⟩), .agg #[.int .i64 a, .int .i64 b]] W (PubTo S w0 p L (s1, .error er)) := by
  have HF := Lib.hid hf
  clear hf
  have F0 := Lib.hid ((((h.alloc (.cells #[.int .i64 a, .int .i64 b] 24)).alloc (.cells #[.int .i64 0, .int .i64 0] 24)).alloc (.cells #[.int .i64 0] 39)).alloc (talkC p Sough.zeroY))
  simp only [World.size_alloc] at F0
  have HA := Lib.hid ha; have HB := Lib.hid hb
  clear h ha hb
  go_enter_defers Try.func25, Try.ntmps25
  go_wp2_with fail
  refine wp_vals (n := 19) (fun k => match k with
    | 0 => some (.pointer (some ⟨W.heap.size + 1 + 1 + 1, 0, none⟩))
    | 1 => some (.pointer (some ⟨W.heap.size, 0, none⟩))
    | 2 => some (.int .i64 a)
    | 4 => some (.pointer (some ⟨W.heap.size + 1 + 1 + 1, 0, none⟩))
    | 5 => some (.pointer (some ⟨W.heap.size, 1, none⟩))
    | 6 => some (.int .i64 b)
    | _ => none) (fun L' _ x => SF S w0 x p st ((W.heap.size + 1 + 1 + 1, talkC p Sough.zeroY) :: (W.heap.size + 1 + 1, .cells #[.int .i64 0] 39 (0, 0)) :: (W.heap.size + 1, .cells #[.int .i64 0, .int .i64 0] 24 (0, 0)) :: (W.heap.size, .cells #[.int .i64 a, .int .i64 b] 24 (0, 0)) :: L) ∧ L' 3 = false) (by kernel_rfl) (by kernel_rfl) ?_ ?_ ?_ ?_
  · intro L' v hL
    exact ⟨F0.out.later (Below.refl _ _).drew, hL 3 (by simp)⟩
  · intro L1 L2 v v' x hk hM
    exact ⟨hM.1, by rw [← (hk 3 (by simp) rfl).1]; exact hM.2⟩
  · refine ⟨?_, ?_, ?_, ?_, ?_, ?_, ?_, ?_, ?_, ?_, ?_, trivial⟩
    · intro L' v x hLk hW hF hbk hM
      refine ⟨wanted_none rfl, ?_⟩
      simp only [putAll, Act.put, List.setIfInBounds_toArray, List.set_cons_succ, List.set_cons_zero]
      refine vstep_pure rfl (fun q hb => ⟨rfl, ⟨hM.1.later hb, hM.2⟩⟩) ?_
      go_big_quiet_step (fail)
      exact wpQuiet_nil rfl
    · intro L' v x hLk hW hF hbk hM
      refine ⟨wanted_none rfl, ?_⟩
      simp only [putAll, Act.put, List.setIfInBounds_toArray, List.set_cons_succ, List.set_cons_zero]
      refine vstep_pure rfl (fun q hb => ⟨rfl, ⟨hM.1.later hb, hM.2⟩⟩) ?_
      go_big_quiet_step (fail)
      exact wpQuiet_nil rfl
    · intro L' v x hLk hW hF hbk hM
      have e1 : v 1 = .pointer (some ⟨W.heap.size, 0, none⟩) := hF 1 _ (by decide) rfl
      have hc := hM.1.get 3 rfl
      have y0 : ∀ z : Later x, z.world.cell? ⟨W.heap.size, 0, none⟩ = some (.int .i64 a) := fun z => z.cell (by simp [World.cell?, hc])
      clear hc
      refine ⟨wanted_none rfl, ?_⟩
      simp only [putAll, Act.put, List.setIfInBounds_toArray, List.set_cons_succ, List.set_cons_zero, e1]
      refine vstep_pure rfl (fun q hb => ⟨rfl, ⟨hM.1.later hb, hM.2⟩⟩) ?_
      go_big_quiet_step (fail)
      exact wpQuiet_nil rfl
    · intro L' v x hLk hW hF hbk hM
      have e0 : v 0 = .pointer (some ⟨W.heap.size + 1 + 1 + 1, 0, none⟩) := hF 0 _ (by decide) rfl
      have e2 : v 2 = .int .i64 a := hF 2 _ (by decide) rfl
      have hs := hM.1
      refine ⟨wanted_none rfl, ?_⟩
      simp only [putAll, Act.put, List.setIfInBounds_toArray, List.set_cons_succ, List.set_cons_zero, e0, e2]
      refine Oper.wp_mono (K := fun _ _ => False) (fun _ _ h => h.elim) ?_
      unfold Oper.wp
      go_simp
      refine (publicT_er hs HA.out HF.out).mono ?_
      rintro e q ⟨rfl, z, hq⟩
      have F5 := Lib.hid hq
      clear hq
      have hc := F5.out.get 1 rfl
      refine door_panic rfl (old := .int .i64 0) (by simp [World.cell?, hc]) (by simp [World.frozen?, hc]) ?_
      have F7 := Lib.hid ((((F5.out.sub (List.sublist_cons_self _ _)).later ((Below.refl _ _).alloc (Nat.le_refl _) (.cells #[.int .i64 er] 120))).set 0 (.int .i64 er)))
      have g0 := F7.out.get 0 rfl
      have g1 := F7.out.get 1 rfl
      refine ⟨.tuple #[.agg #[.int .i64 0, .int .i64 0], .int .i64 er], ?_, rfl, ?_⟩
      · simp [results, Try.results25, go_sem, World.cell?, g0, g1]
      · exact F7.out.sub ((List.sublist_cons_self _ _).trans ((List.sublist_cons_self _ _).trans (List.sublist_cons_self _ _)))
    · intro L' v x hLk hW hF hbk hM
      refine ⟨wanted_none rfl, ?_⟩
      simp only [putAll, Act.put, List.setIfInBounds_toArray, List.set_cons_succ, List.set_cons_zero]
      refine vstep_pure rfl (fun q hb => ⟨rfl, ⟨hM.1.later hb, hM.2⟩⟩) ?_
      go_big_quiet_step (fail)
      exact wpQuiet_nil rfl
    · intro L' v x hLk hW hF hbk hM
      refine ⟨wanted_none rfl, ?_⟩
      simp only [putAll, Act.put, List.setIfInBounds_toArray, List.set_cons_succ, List.set_cons_zero]
      refine vstep_pure rfl (fun q hb => ⟨rfl, ⟨hM.1.later hb, hM.2⟩⟩) ?_
      go_big_quiet_step (fail)
      exact wpQuiet_nil rfl
    · intro L' v x hLk hW hF hbk hM
      have e5 : v 5 = .pointer (some ⟨W.heap.size, 1, none⟩) := hF 5 _ (by decide) rfl
      have hc := hM.1.get 3 rfl
      have y0 : ∀ z : Later x, z.world.cell? ⟨W.heap.size, 1, none⟩ = some (.int .i64 b) := fun z => z.cell (by simp [World.cell?, hc])
      clear hc
      refine ⟨wanted_none rfl, ?_⟩
      simp only [putAll, Act.put, List.setIfInBounds_toArray, List.set_cons_succ, List.set_cons_zero, e5]
      refine vstep_pure rfl (fun q hb => ⟨rfl, ⟨hM.1.later hb, hM.2⟩⟩) ?_
      go_big_quiet_step (fail)
      exact wpQuiet_nil rfl
    · intro L' v x hLk hW hF hbk hM
      exact absurd (hW 3 (by decide)) (by rw [hM.2]; simp)
    · intro L' v x hLk hW hF hbk hM
      exact absurd (hW 3 (by decide)) (by rw [hM.2]; simp)
    · intro L' v x hLk hW hF hbk hM
      exact absurd (hW 3 (by decide)) (by rw [hM.2]; simp)
    · intro L' v x hLk hW hF hbk hM
      exact absurd (hW 3 (by decide)) (by rw [hM.2]; simp)
  · intro L' v x hL hF hM
    exact absurd (hL 3 (by simp)) (by rw [hM.2]; simp)
set_option maxRecDepth 100000 in
set_option maxHeartbeats 1600000 in
theorem pub_e2 {S : List Nat} {w0 W : World} {p : Nat} {st s1 s2 : Sough.Store} {L : List (Nat × Obj)} {a b : Int} {er : Nat} {x1 : Int} (h : SF S w0 W p st L) (ha : Sough.Int64 a) (hb : Sough.Int64 b) (hf : Sough.publicT st a = (s1, .ok x1)) (hg : Sough.wrappingT s1 b = (s2, .error er)) :
    Calls Try.prog 25 #[.pointer (some ⟨p, 0, none⟩), .agg #[.int .i64 a, .int .i64 b]] W (PubTo S w0 p L (s2, .error er)) := by
  have HF := Lib.hid hf
  clear hf
  have HG := Lib.hid hg
  clear hg
  have F0 := Lib.hid ((((h.alloc (.cells #[.int .i64 a, .int .i64 b] 24)).alloc (.cells #[.int .i64 0, .int .i64 0] 24)).alloc (.cells #[.int .i64 0] 39)).alloc (talkC p Sough.zeroY))
  simp only [World.size_alloc] at F0
  have HA := Lib.hid ha; have HB := Lib.hid hb
  clear h ha hb
  go_enter_defers Try.func25, Try.ntmps25
  go_wp2_with fail
  refine wp_vals (n := 19) (fun k => match k with
    | 0 => some (.pointer (some ⟨W.heap.size + 1 + 1 + 1, 0, none⟩))
    | 1 => some (.pointer (some ⟨W.heap.size, 0, none⟩))
    | 2 => some (.int .i64 a)
    | 4 => some (.pointer (some ⟨W.heap.size + 1 + 1 + 1, 0, none⟩))
    | 5 => some (.pointer (some ⟨W.heap.size, 1, none⟩))
    | 6 => some (.int .i64 b)
    | _ => none) (fun L' v x => SF S w0 x p (if L' 3 = true then s1 else st) ((W.heap.size + 1 + 1 + 1, talkC p Sough.zeroY) :: (W.heap.size + 1 + 1, .cells #[.int .i64 0] 39 (0, 0)) :: (W.heap.size + 1, .cells #[.int .i64 0, .int .i64 0] 24 (0, 0)) :: (W.heap.size, .cells #[.int .i64 a, .int .i64 b] 24 (0, 0)) :: L) ∧ (L' 3 = true → v 3 = .int .i64 x1) ∧ L' 7 = false) (by kernel_rfl) (by kernel_rfl) ?_ ?_ ?_ ?_
  · intro L' v hL
    have e3 := hL 3 (by simp)
    refine ⟨?_, fun h => (by rw [e3] at h; cases h), hL 7 (by simp)⟩
    rw [e3]
    exact F0.out.later (Below.refl _ _).drew
  · intro L1 L2 v v' x hk hM
    obtain ⟨h1, h2, h3⟩ := hM
    have e3 := hk 3 (by simp) rfl
    refine ⟨?_, fun h => ?_, ?_⟩
    · rw [← e3.1]; exact h1
    · have h' := e3.1.trans h; exact (e3.2 h').symm.trans (h2 h')
    · rw [← (hk 7 (by simp) rfl).1]; exact h3
  · refine ⟨?_, ?_, ?_, ?_, ?_, ?_, ?_, ?_, ?_, ?_, ?_, trivial⟩
    · intro L' v x hLk hW hF hbk hM
      refine ⟨wanted_none rfl, ?_⟩
      simp only [putAll, Act.put, List.setIfInBounds_toArray, List.set_cons_succ, List.set_cons_zero]
      refine vstep_pure rfl (fun q hb => ⟨rfl, ⟨hM.1.later hb, hM.2⟩⟩) ?_
      go_big_quiet_step (fail)
      exact wpQuiet_nil rfl
    · intro L' v x hLk hW hF hbk hM
      refine ⟨wanted_none rfl, ?_⟩
      simp only [putAll, Act.put, List.setIfInBounds_toArray, List.set_cons_succ, List.set_cons_zero]
      refine vstep_pure rfl (fun q hb => ⟨rfl, ⟨hM.1.later hb, hM.2⟩⟩) ?_
      go_big_quiet_step (fail)
      exact wpQuiet_nil rfl
    · intro L' v x hLk hW hF hbk hM
      have e1 : v 1 = .pointer (some ⟨W.heap.size, 0, none⟩) := hF 1 _ (by decide) rfl
      have hc := hM.1.get 3 rfl
      have y0 : ∀ z : Later x, z.world.cell? ⟨W.heap.size, 0, none⟩ = some (.int .i64 a) := fun z => z.cell (by simp [World.cell?, hc])
      clear hc
      refine ⟨wanted_none rfl, ?_⟩
      simp only [putAll, Act.put, List.setIfInBounds_toArray, List.set_cons_succ, List.set_cons_zero, e1]
      refine vstep_pure rfl (fun q hb => ⟨rfl, ⟨hM.1.later hb, hM.2⟩⟩) ?_
      go_big_quiet_step (fail)
      exact wpQuiet_nil rfl
    · intro L' v x hLk hW hF hbk hM
      have e0 : v 0 = .pointer (some ⟨W.heap.size + 1 + 1 + 1, 0, none⟩) := hF 0 _ (by decide) rfl
      have e2 : v 2 = .int .i64 a := hF 2 _ (by decide) rfl
      obtain ⟨h1, h2, h3⟩ := hM
      rw [hLk] at h1
      have CC := Lib.hid (publicT_ok h1 HA.out HF.out)
      refine ⟨wanted_none rfl, ?_⟩
      simp only [putAll, Act.put, List.setIfInBounds_toArray, List.set_cons_succ, List.set_cons_zero, e0, e2]
      refine vstep_call (fun q => SF S w0 q p s1 ((W.heap.size + 1 + 1 + 1, talkC p Sough.zeroY) :: (W.heap.size + 1 + 1, .cells #[.int .i64 0] 39 (0, 0)) :: (W.heap.size + 1, .cells #[.int .i64 0, .int .i64 0] 24 (0, 0)) :: (W.heap.size, .cells #[.int .i64 a, .int .i64 b] 24 (0, 0)) :: L)) (fun q hq => ⟨.int .i64 x1, rfl, by simp only [Nat.zero_add, Nat.reduceAdd, Nat.reduceBEq, beq_self_eq_true, Bool.or_true, Bool.or_false, Nat.reduceEqDiff, if_true, if_false, reduceIte]; exact ⟨hq, fun _ => by first | trivial | rfl | assumption, h3⟩⟩) ?_
      unfold Oper.wp
      go_simp
      refine CC.out.mono ?_
      rintro e q ⟨rfl, hq⟩
      exact ⟨rfl, hq⟩
    · intro L' v x hLk hW hF hbk hM
      refine ⟨wanted_none rfl, ?_⟩
      simp only [putAll, Act.put, List.setIfInBounds_toArray, List.set_cons_succ, List.set_cons_zero]
      refine vstep_pure rfl (fun q hb => ⟨rfl, ⟨hM.1.later hb, hM.2⟩⟩) ?_
      go_big_quiet_step (fail)
      exact wpQuiet_nil rfl
    · intro L' v x hLk hW hF hbk hM
      refine ⟨wanted_none rfl, ?_⟩
      simp only [putAll, Act.put, List.setIfInBounds_toArray, List.set_cons_succ, List.set_cons_zero]
      refine vstep_pure rfl (fun q hb => ⟨rfl, ⟨hM.1.later hb, hM.2⟩⟩) ?_
      go_big_quiet_step (fail)
      exact wpQuiet_nil rfl
    · intro L' v x hLk hW hF hbk hM
      have e5 : v 5 = .pointer (some ⟨W.heap.size, 1, none⟩) := hF 5 _ (by decide) rfl
      have hc := hM.1.get 3 rfl
      have y0 : ∀ z : Later x, z.world.cell? ⟨W.heap.size, 1, none⟩ = some (.int .i64 b) := fun z => z.cell (by simp [World.cell?, hc])
      clear hc
      refine ⟨wanted_none rfl, ?_⟩
      simp only [putAll, Act.put, List.setIfInBounds_toArray, List.set_cons_succ, List.set_cons_zero, e5]
      refine vstep_pure rfl (fun q hb => ⟨rfl, ⟨hM.1.later hb, hM.2⟩⟩) ?_
      go_big_quiet_step (fail)
      exact wpQuiet_nil rfl
    · intro L' v x hLk hW hF hbk hM
      have e4 : v 4 = .pointer (some ⟨W.heap.size + 1 + 1 + 1, 0, none⟩) := hF 4 _ (by decide) rfl
      have e6 : v 6 = .int .i64 b := hF 6 _ (by decide) rfl
      have n3 := hW 3 (by decide)
      obtain ⟨h1, h2, h3⟩ := hM
      rw [n3] at h1
      refine ⟨wanted_none rfl, ?_⟩
      simp only [putAll, Act.put, List.setIfInBounds_toArray, List.set_cons_succ, List.set_cons_zero, e4, e6]
      refine Oper.wp_mono (K := fun _ _ => False) (fun _ _ h => h.elim) ?_
      unfold Oper.wp
      go_simp
      refine (wrappingT_er h1 HB.out HG.out).mono ?_
      rintro e q ⟨rfl, z, hq⟩
      have F5 := Lib.hid hq
      clear hq
      have hc := F5.out.get 1 rfl
      refine door_panic rfl (old := .int .i64 0) (by simp [World.cell?, hc]) (by simp [World.frozen?, hc]) ?_
      have F7 := Lib.hid ((((F5.out.sub (List.sublist_cons_self _ _)).later ((Below.refl _ _).alloc (Nat.le_refl _) (.cells #[.int .i64 er] 120))).set 0 (.int .i64 er)))
      have g0 := F7.out.get 0 rfl
      have g1 := F7.out.get 1 rfl
      refine ⟨.tuple #[.agg #[.int .i64 0, .int .i64 0], .int .i64 er], ?_, rfl, ?_⟩
      · simp [results, Try.results25, go_sem, World.cell?, g0, g1]
      · exact F7.out.sub ((List.sublist_cons_self _ _).trans ((List.sublist_cons_self _ _).trans (List.sublist_cons_self _ _)))
    · intro L' v x hLk hW hF hbk hM
      exact absurd (hW 7 (by decide)) (by rw [hM.2.2]; simp)
    · intro L' v x hLk hW hF hbk hM
      exact absurd (hW 7 (by decide)) (by rw [hM.2.2]; simp)
    · intro L' v x hLk hW hF hbk hM
      exact absurd (hW 7 (by decide)) (by rw [hM.2.2]; simp)
  · intro L' v x hL hF hM
    exact absurd (hL 7 (by simp)) (by rw [hM.2.2]; simp)
theorem publicsT_any {S : List Nat} {w0 W : World} {p : Nat} {st : Sough.Store} {L : List (Nat × Obj)} {a b : Int} {R : Sough.Res Sough.Pair} (h : SF S w0 W p st L) (ha : Sough.Int64 a) (hb : Sough.Int64 b) (hf : Sough.publicsT st ⟨a, b⟩ = R) :
    Calls Try.prog 25 #[.pointer (some ⟨p, 0, none⟩), .agg #[.int .i64 a, .int .i64 b]] W (PubTo S w0 p L R) := by
  unfold Sough.publicsT at hf
  obtain ⟨s1, r1, h1⟩ : ∃ s r, Sough.publicT st a = (s, r) := ⟨_, _, rfl⟩
  simp only [h1] at hf
  rcases r1 with er | x1
  · simp only [Sough.bnd] at hf
    rw [← hf]; exact pub_e1 h ha hb h1
  obtain ⟨s2, r2, h2⟩ : ∃ s r, Sough.wrappingT s1 b = (s, r) := ⟨_, _, rfl⟩
  simp only [Sough.bnd, h2] at hf
  rcases r2 with er | x2
  · simp only at hf
    rw [← hf]; exact pub_e2 h ha hb h1 h2
  · simp only at hf
    rw [← hf]; exact pub_ok h ha hb h1 h2
end Go.Proofs.Ytlfgempjjoclbaa
