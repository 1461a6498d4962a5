/- split.Join at any parts; soughref11.Join. -/
import Derived.Test.YtkogjhdcakjpeaaSpJoin
namespace Go.Proofs.Ytkogjhdcakjpeaa
open Go.RowKit Go.Shelf

set_option maxRecDepth 100000 in
set_option maxHeartbeats 1600000 in
theorem join_none (a : Option Addr) (cap : Nat) (w : World) :
    Calls Try.prog 12 #[.slice a 0 cap] w fun e w' => e = .returned (.tuple #[.string ⟨#[]⟩, .int .i64 3]) ∧ Below w.heap.size w w' := by
  go_enter Try.func12, Try.ntmps12
  go_wp2
  go_ret2
  exact ⟨rfl, Below.refl _ _⟩

set_option maxRecDepth 100000 in
set_option maxHeartbeats 1600000 in
theorem join_far (a : Option Addr) (n cap : Nat) (hn : 16 < n) (w : World) :
    Calls Try.prog 12 #[.slice a n cap] w fun e w' => e = .returned (.tuple #[.string ⟨#[]⟩, .int .i64 3]) ∧ Below w.heap.size w w' := by
  have d1 : decide ((n : Int) < 1) = false := by simp; omega
  have d2 : decide ((16 : Int) < n) = true := by simp; omega
  go_enter Try.func12, Try.ntmps12
  go_wp2
  go_ret2
  exact ⟨rfl, Below.refl _ _⟩

def BackZ (w : World) (sv iv : Value) (wr : World) : Prop := sv = .string ⟨#[]⟩ ∧ iv = .int .i64 0 ∧ w = wr
set_option maxRecDepth 100000 in
set_option maxHeartbeats 1600000 in
theorem rjoin_none (a : Option Addr) (cap : Nat) (w : World) :
    Calls Try.prog 13 #[.slice a 0 cap] w fun e w' => e = .returned (.tuple #[.string ⟨#[]⟩, .int .i64 3]) ∧ Below w.heap.size w w' := by
  go_enter Try.func13, Try.ntmps13
  go_wp2_with fail
  go_loopw [4, 5] (fun sv iv wr => BackZ w sv iv wr) (fun _ _ _ => 0)
  case atStart => exact ⟨rfl, rfl, rfl⟩
  case round =>
    obtain ⟨rfl, rfl, rfl⟩ := hrel
    go_wp2
    go_ret2
    exact ⟨rfl, Below.refl _ _⟩

theorem join_bad' {fs : List Sough.Frag} {k : Nat} (hk : k < fs.length) (hn : ¬ Sough.Good fs k) : Sough.join fs = ([], 3) := by
  unfold Sough.join
  split
  · rfl
  · rw [if_neg (fun h => hn (h k hk))]
theorem good_le {fs : List Sough.Frag} {k n : Nat} (hn : n = fs.length) (hk : 0 < k) (h : ∀ i, i < k → Sough.Good fs i) : n ≤ 16 := by
  have := h 0 hk
  have h2 := this.1.2.2.2.1
  have h3 := this.2.2.1
  omega

set_option maxRecDepth 100000 in
set_option maxHeartbeats 6400000 in
theorem rjoin_some {b o cap : Nat} {fs : List Sough.Frag} {t : List UInt8} {er : Nat} (hj : Sough.join fs = (t, er)) (h1 : 1 ≤ fs.length) (h2 : fs.length ≤ maxLen) (w : World) (hf : FragsAt w b o fs) :
    Calls Try.prog 13 #[.slice (some ⟨b, o, none⟩) fs.length cap] w fun e w' => e = .returned (.tuple #[.string ⟨t.toArray⟩, .int .i64 er]) ∧ Below w.heap.size w w' := by
  have HF := Lib.hid hf; have HJ := Lib.hid hj; clear hf hj
  obtain ⟨n, hn⟩ : ∃ n, n = fs.length := ⟨_, rfl⟩
  have d1 : ((n : Int) == 0) = false := by simp; omega
  unfold maxLen at h2
  rw [← hn] at h1 h2 ⊢
  have HN := Lib.hid hn; clear hn
  go_enter Try.func13, Try.ntmps13
  go_wp2_with fail
  go_loopw [4, 5] (fun sv iv wr => JoinR fs w sv iv wr) (fun _ i _ => 17 - (intOf i).toNat)
  case atStart => exact ⟨0, by omega, fun i hi => absurd hi (by omega), rfl, rfl, Below.refl _ _⟩
  case round =>
    obtain ⟨k, hk, hgood, rfl, rfl, hbel⟩ := hrel
    have HB := Lib.hid hbel
    have HG := Lib.hid hgood
    clear hgood
    rw [← HN.out] at hk
    have h17 : k < 17 := by
      rcases Nat.eq_zero_or_pos k with h | h
      · omega
      · have := good_le HN.out h HG.out; omega
    by_cases hlt : k < n
    · have F := HF.out.later hbel k (by rw [← HN.out]; exact hlt)
      obtain ⟨F0, F1, F2, F3⟩ := F
      have G0 := ((HF.out.later hbel) 0 (by rw [← HN.out]; omega)).1
      simp only [Nat.zero_mul, Nat.add_zero] at G0
      clear hbel
      have hfd : ¬ Sough.Good fs k ∨ Sough.Good fs k := Decidable.em _ |>.symm
      have hgl := joined_len' HN.out (Nat.le_of_lt hlt) HG.out
      have hsucc := Sough.joined_succ fs (k := k) (by rw [← HN.out]; exact hlt)
      have hgd : Sough.Good fs k ↔ (Sough.fragAt fs k).ok ∧ (Sough.fragAt fs k).id = (Sough.fragAt fs 0).id ∧ (Sough.fragAt fs k).count = n ∧ (Sough.fragAt fs k).index = k := by rw [HN.out]; rfl
      generalize Sough.fragAt fs k = f at *
      generalize Sough.fragAt fs 0 = f0 at *
      go_wp2_with fail
      have g0 := G0
      have x0 : ∀ x : Later wr, x.world.cell? ⟨b, o + k * 4, none⟩ = some (.int .u64 f.id) := fun x => x.cell F0
      have x1 : ∀ x : Later wr, x.world.cell? ⟨b, o + k * 4 + 1, none⟩ = some (.int .i64 f.index) := fun x => x.cell F1
      have x2 : ∀ x : Later wr, x.world.cell? ⟨b, o + k * 4 + 2, none⟩ = some (.int .i64 f.count) := fun x => x.cell F2
      have x3 : ∀ x : Later wr, x.world.cell? ⟨b, o + k * 4 + 3, none⟩ = some (.string ⟨f.part.toArray⟩) := fun x => x.cell F3
      have y0 : ∀ x : Later wr, x.world.cell? ⟨b, o, none⟩ = some (.int .u64 f0.id) := fun x => x.cell g0
      have C3 := Lib.hid F3
      clear g0 F0 F1 F2 F3 G0
      by_cases hgk : Sough.Good fs k
      · have hg' := hgk
        rw [hgd] at hg'
        have hr : f.right = true := (Sough.right_iff f).2 hg'.1
        have e1 : ((f.id : Int) != (f0.id : Int)) = false := by simp [hg'.2.1]
        have e2 : (f.count != (n : Int)) = false := by simp [hg'.2.2.1]
        have e3 : (f.index != (k : Int)) = false := by simp [hg'.2.2.2]
        have hfl := hg'.1.2.2.2.2.2.2.2
        have HGK := Lib.hid hgk
        clear hgd hg' hfd hgk
        refine wp_region_later (by kernel_rfl) (by kernel_rfl) ?_
        repeat (go_big_quiet_step ((go_at_call 21; exact Calls.later (rright_as hr _))))
        refine wpQuiet_nil ?_
        rintro ⟨w2, hb2⟩
        have c3 := (hb2.cell (World.block_lt_of_cell? wr _ C3.out)).trans C3.out
        go_wp2_with fail
        go_roundw
        case rel => exact JoinR.next HN.out hlt hsucc HG.out HGK.out (ext_trans HB.out hb2)
        case measure => simp [intOf]; omega
      · have HNG := Lib.hid hgk
        rw [hgd] at hgk
        by_cases q0 : f.ok
        · have hr : f.right = true := (Sough.right_iff f).2 q0
          by_cases q1 : f.id = f0.id
          · have e1 : ((f.id : Int) != (f0.id : Int)) = false := by simp [q1]
            by_cases q2 : f.count = (n : Int)
            · have e2 : (f.count != (n : Int)) = false := by simp [q2]
              have e3 : (f.index != (k : Int)) = true := by simp; intro q3; exact hgk ⟨q0, q1, q2, q3⟩
              clear hgd hgk hfd q0 q1 q2
              refine wp_region_later (by kernel_rfl) (by kernel_rfl) ?_
              repeat (go_big_quiet_step ((go_at_call 21; exact Calls.later (rright_as hr _))))
              refine wpQuiet_nil ?_
              rintro ⟨w2, hb2⟩
              go_wp2_with fail
              go_ret2
              have hb := join_bad' (by have := HN.out; omega) HNG.out
              obtain ⟨rfl, rfl⟩ := Prod.mk.inj (HJ.out.symm.trans hb)
              exact ⟨rfl, ext_trans HB.out hb2⟩
            · have e2 : (f.count != (n : Int)) = true := by simp [q2]
              clear hgd hgk hfd q0 q1 q2
              refine wp_region_later (by kernel_rfl) (by kernel_rfl) ?_
              repeat (go_big_quiet_step ((go_at_call 21; exact Calls.later (rright_as hr _))))
              refine wpQuiet_nil ?_
              rintro ⟨w2, hb2⟩
              go_wp2_with fail
              go_ret2
              have hb := join_bad' (by have := HN.out; omega) HNG.out
              obtain ⟨rfl, rfl⟩ := Prod.mk.inj (HJ.out.symm.trans hb)
              exact ⟨rfl, ext_trans HB.out hb2⟩
          · have e1 : ((f.id : Int) != (f0.id : Int)) = true := by simp; omega
            clear hgd hgk hfd q0 q1
            refine wp_region_later (by kernel_rfl) (by kernel_rfl) ?_
            repeat (go_big_quiet_step ((go_at_call 21; exact Calls.later (rright_as hr _))))
            refine wpQuiet_nil ?_
            rintro ⟨w2, hb2⟩
            go_wp2_with fail
            go_ret2
            have hb := join_bad' (by have := HN.out; omega) HNG.out
            obtain ⟨rfl, rfl⟩ := Prod.mk.inj (HJ.out.symm.trans hb)
            exact ⟨rfl, ext_trans HB.out hb2⟩
        · have hr : f.right = false := by rw [Bool.eq_false_iff]; exact fun h => q0 ((Sough.right_iff f).1 h)
          clear hgd hgk hfd q0
          refine wp_region_later (by kernel_rfl) (by kernel_rfl) ?_
          repeat (go_big_quiet_step ((go_at_call 21; exact Calls.later (rright_as hr _))))
          refine wpQuiet_nil ?_
          rintro ⟨w2, hb2⟩
          go_wp2_with fail
          go_ret2
          have hb := join_bad' (by have := HN.out; omega) HNG.out
          obtain ⟨rfl, rfl⟩ := Prod.mk.inj (HJ.out.symm.trans hb)
          exact ⟨rfl, ext_trans HB.out hb2⟩
    · obtain rfl : k = n := by omega
      clear hbel hlt
      have h16 := good_le HN.out h1 HG.out
      have hall := join_all h1 h16 HN.out HG.out
      have d2 : decide ((16 : Int) < k) = false := by simp; omega
      have HA := Lib.hid hall
      clear hall
      go_wp2_with fail
      all_goals
        rename_i hlong
        go_ret2
        have hall := HA.out
        first
          | rw [if_pos (by omega)] at hall
          | rw [if_neg (by omega)] at hall
        obtain ⟨rfl, rfl⟩ := Prod.mk.inj (HJ.out.symm.trans hall)
        exact ⟨rfl, HB.out⟩

theorem cells_at (fs : List Sough.Frag) : ∀ i, i < fs.length → (fs.flatMap fragCells)[i * 4]? = some (.int .u64 (Sough.fragAt fs i).id) ∧ (fs.flatMap fragCells)[i * 4 + 1]? = some (.int .i64 (Sough.fragAt fs i).index) ∧
    (fs.flatMap fragCells)[i * 4 + 2]? = some (.int .i64 (Sough.fragAt fs i).count) ∧ (fs.flatMap fragCells)[i * 4 + 3]? = some (.string ⟨(Sough.fragAt fs i).part.toArray⟩) := by
  induction fs with
  | nil => intro i hi; simp at hi
  | cons f fs ih =>
    intro i hi
    cases i with
    | zero => simp [Sough.fragAt, fragCells]
    | succ i =>
      have := ih i (by simpa using hi)
      have e : ∀ j, ((f :: fs).flatMap fragCells)[(i + 1) * 4 + j]? = (fs.flatMap fragCells)[i * 4 + j]? := fun j => by
        rw [List.flatMap_cons, List.getElem?_append_right (by simp [fragCells]; omega)]
        congr 1
        simp [fragCells]; omega
      have e0 := e 0
      simp only [Nat.add_zero] at e0
      rw [e0, e 1, e 2, e 3]
      exact this

theorem fragsAt_own {w : World} {base g cap : Nat} {e : TypeId} {fs : List Sough.Frag} (h : w.ownsRow base e 4 (.slice (some ⟨g, 0, none⟩) fs.length cap) fs.length (fs.flatMap fragCells)) : FragsAt w g 0 fs := by
  intro i hi
  obtain ⟨a, b, c, d⟩ := cells_at fs i hi
  simp only [Nat.zero_add]
  exact ⟨(h.cellAt _ (by omega)).trans a, (h.cellAt _ (by omega)).trans b, (h.cellAt _ (by omega)).trans c, (h.cellAt _ (by omega)).trans d⟩

theorem join_short {fs : List Sough.Frag} (h : fs.length < 1 ∨ 16 < fs.length) : Sough.join fs = ([], 3) := by
  unfold Sough.join
  rw [if_pos h]

/-- split.Join at a row. -/
theorem join_at {b o cap : Nat} {fs : List Sough.Frag} {t : List UInt8} {er : Nat} (hj : Sough.join fs = (t, er)) (w : World) (hf : FragsAt w b o fs) :
    Calls Try.prog 12 #[.slice (some ⟨b, o, none⟩) fs.length cap] w fun e w' => e = .returned (.tuple #[.string ⟨t.toArray⟩, .int .i64 er]) ∧ Below w.heap.size w w' := by
  by_cases h : fs.length < 1 ∨ 16 < fs.length
  · obtain ⟨rfl, rfl⟩ := Prod.mk.inj (hj.symm.trans (join_short h))
    rcases h with h | h
    · rw [show fs.length = 0 by omega]
      exact join_none _ _ w
    · exact join_far _ _ _ h w
  · exact join_some hj (by omega) (by omega) w hf

/-- split.Join. -/
theorem join_as {v : Value} {fs : List Sough.Frag} {t : List UInt8} {er base : Nat} {e : TypeId} (hj : Sough.join fs = (t, er)) (w : World) (hv : w.ownsRow base e 4 v fs.length (fs.flatMap fragCells)) :
    Calls Try.prog 12 #[v] w fun e w' => e = .returned (.tuple #[.string ⟨t.toArray⟩, .int .i64 er]) ∧ Below w.heap.size w w' := by
  rcases hv.2 with ⟨rfl, h0⟩ | ⟨g, cap, cur, rfl, _⟩
  · obtain ⟨rfl, rfl⟩ := Prod.mk.inj (hj.symm.trans (join_short (.inl (by omega))))
    exact join_none _ _ w
  · exact join_at hj w (fragsAt_own hv)

/-- soughref11.Join. -/
theorem rjoin_as {v : Value} {fs : List Sough.Frag} {t : List UInt8} {er base : Nat} {e : TypeId} (hj : Sough.join fs = (t, er)) (w : World) (hm : fs.length ≤ maxLen) (hv : w.ownsRow base e 4 v fs.length (fs.flatMap fragCells)) :
    Calls Try.prog 13 #[v] w fun e w' => e = .returned (.tuple #[.string ⟨t.toArray⟩, .int .i64 er]) ∧ Below w.heap.size w w' := by
  by_cases h : fs.length < 1
  · obtain ⟨rfl, rfl⟩ := Prod.mk.inj (hj.symm.trans (join_short (.inl h)))
    rcases hv.2 with ⟨rfl, h0⟩ | ⟨g, cap, cur, rfl, _⟩
    · exact rjoin_none _ _ w
    · rw [show fs.length = 0 by omega]
      exact rjoin_none _ _ w
  · rcases hv.2 with ⟨rfl, h0⟩ | ⟨g, cap, cur, rfl, _⟩
    · omega
    · exact rjoin_some hj (by omega) hm w (fragsAt_own hv)

end Go.Proofs.Ytkogjhdcakjpeaa
