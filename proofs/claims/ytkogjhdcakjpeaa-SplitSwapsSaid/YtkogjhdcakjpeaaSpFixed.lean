/- The walk of soughlaw11.fixed, One, Cut. -/
import Derived.Test.YtkogjhdcakjpeaaSpJoin2
import Derived.Test.YtkogjhdcakjpeaaSpLaw
namespace Go.Proofs.Ytkogjhdcakjpeaa
open Go.RowKit Go.Shelf

/-- The parts of the fixed calls. -/
abbrev fixL : List Sough.Frag := [⟨7, 0, 3, [97, 98]⟩, ⟨7, 1, 3, [99, 100]⟩, ⟨7, 2, 3, [101]⟩]
def FixL (w : World) (g : Nat) : Prop := g < w.heap.size ∧ FragsAt w g 0 fixL ∧ FragsAt w g 4 (fixL.drop 1)
theorem FixL.later {w w' : World} {g : Nat} (h : FixL w g) (hb : Below w.heap.size w w') : FixL w' g := ⟨Nat.lt_of_lt_of_le h.1 hb.size, h.2.1.later hb, h.2.2.later hb⟩
theorem FixL.of {w : World} {g : Nat} (h : FragsAt w g 0 fixL) : FixL w g := by
  refine ⟨World.block_lt_of_cell? w _ (h 0 (by decide)).1, h, fun i hi => ?_⟩
  have hi' : i < 2 := hi
  have := h (i + 1) (show i + 1 < 3 by omega)
  have e : Sough.fragAt (fixL.drop 1) i = Sough.fragAt fixL (i + 1) := rfl
  rw [e, show 4 + i * 4 = 0 + (i + 1) * 4 by omega]
  exact this
theorem FixL.cells {w : World} {g : Nat} (h : FixL w g) : w.cell? ⟨g, 4, none⟩ = some (.int .u64 7) ∧ w.cell? ⟨g, 5, none⟩ = some (.int .i64 1) ∧ w.cell? ⟨g, 6, none⟩ = some (.int .i64 3) ∧ w.cell? ⟨g, 7, none⟩ = some (.string ⟨#[99, 100]⟩) ∧
    w.cell? ⟨g, 8, none⟩ = some (.int .u64 7) ∧ w.cell? ⟨g, 9, none⟩ = some (.int .i64 2) ∧ w.cell? ⟨g, 10, none⟩ = some (.int .i64 3) ∧ w.cell? ⟨g, 11, none⟩ = some (.string ⟨#[101]⟩) := by
  have h1 := h.2.1 1 (by decide)
  have h2 := h.2.1 2 (by decide)
  exact ⟨h1.1, h1.2.1, h1.2.2.1, h1.2.2.2, h2.1, h2.2.1, h2.2.2.1, h2.2.2.2⟩

theorem own_form {w : World} {base size n : Nat} {e : TypeId} {v : Value} {xs : List Value} (h : w.ownsRow base e size v n xs) (hn : 0 < n) : ∃ g cap, v = .slice (some ⟨g, 0, none⟩) n cap ∧ n ≤ cap ∧ cap ≤ maxLen := by
  rcases h.2 with ⟨_, h0⟩ | ⟨g, cap, _, h1, _, _, h2, h3, _⟩
  · omega
  · exact ⟨g, cap, h1, h2, h3⟩

set_option maxRecDepth 100000 in
set_option maxHeartbeats 64000000 in
theorem fixed_walk (w : World) :
    Calls Try.prog 16 #[] w fun e w' => e = .returned (.bool true) ∧ Below w.heap.size w w' := by
  go_enter Try.func16, Try.ntmps16
  go_wp2_with fail
  refine (cut_lit (id := 7) (fs := fixL) (er := 0) (by rfl) (by decide) _).mono ?_
  rintro e w1 ⟨v, rfl, hown, hb1⟩
  obtain ⟨g, cap, rfl, hcap⟩ := own_form hown (by decide)
  have F1 := Lib.hid (FixL.of (fragsAt_own hown)); clear hown
  go_wp2_with fail
  refine (cut_lit (id := 0) (fs := []) (er := 1) (by rfl) (by decide) _).mono ?_
  rintro e w2 ⟨v2, rfl, -, hb2⟩
  go_wp2_with fail
  refine (cut_lit (id := 1) (fs := []) (er := 4) (by rfl) (by decide) _).mono ?_
  rintro e w3 ⟨v3, rfl, -, hb3⟩
  have B3 := Lib.hid (ext_trans (ext_trans hb1 hb2) hb3)
  have F3 := Lib.hid ((F1.out.later hb2).later hb3)
  clear hb1 hb2 hb3 F1
  go_wp2_with fail
  refine (join_at (fs := fixL) (t := [97, 98, 99, 100, 101]) (er := 0) (by rfl) _ F3.out.2.1).mono ?_
  rintro e w4 ⟨rfl, hb4⟩
  have F4 := Lib.hid (F3.out.later hb4)
  have B4 := Lib.hid (ext_trans B3.out hb4)
  clear hb4 F3 B3
  have hcap1 : 3 ≤ cap := hcap.1
  have hcap2 : cap ≤ 2 ^ 63 - 1 := hcap.2
  clear hcap
  go_wp2_with fail
  refine (join_at (fs := fixL.drop 1) (t := []) (er := 3) (by rfl) _ F4.out.2.2).mono ?_
  rintro e w5 ⟨rfl, hb5⟩
  have F5 := Lib.hid (F4.out.later hb5)
  have B5 := Lib.hid (ext_trans B4.out hb5)
  clear hb5 F4 B4
  have c5 := F5.out.cells
  go_wp2_with fail
  refine (encode_lit (id := 7) (l := [7, 1, 3, 99, 100]) (by rfl) (by decide) _).mono ?_
  rintro e w6 ⟨rfl, hb6⟩
  have F6 := Lib.hid (F5.out.later hb6)
  have B6 := Lib.hid (ext_trans B5.out hb6)
  clear hb6 F5 B5 c5
  go_wp2_with fail
  refine (dec_lit (id := 7) (k := 7) (index := 1) (count := 3) (part := [99, 100]) (er := 0) (by rfl) (by decide) _ (by decide)).mono ?_
  rintro e w7 ⟨rfl, hb7⟩
  have F7 := Lib.hid (F6.out.later hb7)
  have B7 := Lib.hid (ext_trans B6.out hb7)
  clear hb7 F6 B6
  go_wp2_with fail
  have T8 := heap_alloc_new w7 (.cells #[.int .u64 7, .int .i64 1, .int .i64 3, .string ⟨#[99, 100]⟩] 26)
  have hb8 : Below w7.heap.size w7 (w7.alloc (.cells #[.int .u64 7, .int .i64 1, .int .i64 3, .string ⟨#[99, 100]⟩] 26)) := (Below.refl _ _).alloc (Nat.le_refl _) _
  have F8 := Lib.hid (F7.out.later hb8)
  have B8 := Lib.hid (ext_trans B7.out hb8)
  clear hb8 F7 B7
  generalize w7.alloc (.cells #[.int .u64 7, .int .i64 1, .int .i64 3, .string ⟨#[99, 100]⟩] 26) = W8 at *
  refine (dec_lit (id := 0) (k := 0) (index := 0) (count := 0) (part := []) (er := 3) (by rfl) (by decide) _ (by decide)).mono ?_
  rintro e w9 ⟨rfl, hb9⟩
  have T9 := (hb9.block _ (lt_of_block T8)).trans T8
  have F9 := Lib.hid (F8.out.later hb9)
  have B9 := Lib.hid (ext_trans B8.out hb9)
  clear hb9 F8 B8 T8
  go_wp2_with fail
  have hbx : Below w9.heap.size w9 (w9.alloc (.cells #[.int .u64 0, .int .i64 0, .int .i64 0, .string ⟨#[]⟩] 26)) := (Below.refl _ _).alloc (Nat.le_refl _) _
  have T9x := (hbx.block _ (lt_of_block T9)).trans T9
  have F9x := Lib.hid (F9.out.later hbx)
  have B9x := Lib.hid (ext_trans B9.out hbx)
  clear hbx F9 B9 T9
  generalize w9.alloc (.cells #[.int .u64 0, .int .i64 0, .int .i64 0, .string ⟨#[]⟩] 26) = W9 at *
  have T9 := T9x; have F9 := F9x; have B9 := B9x; clear T9x F9x B9x
  refine (dec_lit (id := 0) (k := 0) (index := 0) (count := 0) (part := []) (er := 2) (by rfl) (by decide) _ (by decide)).mono ?_
  rintro e w10 ⟨rfl, hb10⟩
  have T10 := (hb10.block _ (lt_of_block T9)).trans T9
  have F10 := Lib.hid (F9.out.later hb10)
  have B10 := Lib.hid (ext_trans B9.out hb10)
  clear hb10 F9 B9 T9
  go_wp2_with fail
  have hbx : Below w10.heap.size w10 (w10.alloc (.cells #[.int .u64 0, .int .i64 0, .int .i64 0, .string ⟨#[]⟩] 26)) := (Below.refl _ _).alloc (Nat.le_refl _) _
  have T10x := (hbx.block _ (lt_of_block T10)).trans T10
  have F10x := Lib.hid (F10.out.later hbx)
  have B10x := Lib.hid (ext_trans B10.out hbx)
  clear hbx F10 B10 T10
  generalize w10.alloc (.cells #[.int .u64 0, .int .i64 0, .int .i64 0, .string ⟨#[]⟩] 26) = W10 at *
  have T10 := T10x; have F10 := F10x; have B10 := B10x; clear T10x F10x B10x
  refine (dec_lit (id := 0) (k := 0) (index := 0) (count := 0) (part := []) (er := 3) (by rfl) (by decide) _ (by decide)).mono ?_
  rintro e w11 ⟨rfl, hb11⟩
  have T11 := (hb11.block _ (lt_of_block T10)).trans T10
  have F11 := Lib.hid (F10.out.later hb11)
  have B11 := Lib.hid (ext_trans B10.out hb11)
  clear hb11 F10 B10 T10
  go_wp2_with fail
  have hbx : Below w11.heap.size w11 (w11.alloc (.cells #[.int .u64 0, .int .i64 0, .int .i64 0, .string ⟨#[]⟩] 26)) := (Below.refl _ _).alloc (Nat.le_refl _) _
  have T12 := (hbx.block _ (lt_of_block T11)).trans T11
  have F12 := Lib.hid (F11.out.later hbx)
  have B12 := Lib.hid (ext_trans B11.out hbx)
  clear hbx F11 B11 T11
  generalize w11.alloc (.cells #[.int .u64 0, .int .i64 0, .int .i64 0, .string ⟨#[]⟩] 26) = W at *
  obtain ⟨c0, c1, c2, c3, c4, c5, c6, c7⟩ := F12.out.cells
  have t0 : W.cell? ⟨w7.heap.size, 0, none⟩ = some (.int .u64 7) ∧ W.cell? ⟨w7.heap.size, 1, none⟩ = some (.int .i64 1) ∧ W.cell? ⟨w7.heap.size, 2, none⟩ = some (.int .i64 3) ∧ W.cell? ⟨w7.heap.size, 3, none⟩ = some (.string ⟨#[99, 100]⟩) := by
    simp [World.cell?, T12]
  obtain ⟨t0, t1, t2, t3⟩ := t0
  clear T12
  have x0 : ∀ x : Later W, x.world.cell? ⟨g, 4, none⟩ = some (.int .u64 7) := fun x => x.cell c0
  have x1 : ∀ x : Later W, x.world.cell? ⟨g, 5, none⟩ = some (.int .i64 1) := fun x => x.cell c1
  have x2 : ∀ x : Later W, x.world.cell? ⟨g, 6, none⟩ = some (.int .i64 3) := fun x => x.cell c2
  have x3 : ∀ x : Later W, x.world.cell? ⟨g, 7, none⟩ = some (.string ⟨#[99, 100]⟩) := fun x => x.cell c3
  have x4 : ∀ x : Later W, x.world.cell? ⟨g, 8, none⟩ = some (.int .u64 7) := fun x => x.cell c4
  have x5 : ∀ x : Later W, x.world.cell? ⟨g, 9, none⟩ = some (.int .i64 2) := fun x => x.cell c5
  have x6 : ∀ x : Later W, x.world.cell? ⟨g, 10, none⟩ = some (.int .i64 3) := fun x => x.cell c6
  have x7 : ∀ x : Later W, x.world.cell? ⟨g, 11, none⟩ = some (.string ⟨#[101]⟩) := fun x => x.cell c7
  have y0 : ∀ x : Later W, x.world.cell? ⟨w7.heap.size, 0, none⟩ = some (.int .u64 7) := fun x => x.cell t0
  have y1 : ∀ x : Later W, x.world.cell? ⟨w7.heap.size, 1, none⟩ = some (.int .i64 1) := fun x => x.cell t1
  have y2 : ∀ x : Later W, x.world.cell? ⟨w7.heap.size, 2, none⟩ = some (.int .i64 3) := fun x => x.cell t2
  have y3 : ∀ x : Later W, x.world.cell? ⟨w7.heap.size, 3, none⟩ = some (.string ⟨#[99, 100]⟩) := fun x => x.cell t3
  clear c0 c1 c2 c3 c4 c5 c6 c7 t0 t1 t2 t3
  have RA := Lib.hid (fun w => right_lit (id := 7) (k := 7) (index := 1) (count := 3) (part := ⟨#[99, 100]⟩) (b := true) (by rfl) (by decide) w)
  have RB := Lib.hid (fun w => right_lit (id := 0) (k := 0) (index := 0) (count := 0) (part := ⟨#[]⟩) (b := false) (by rfl) (by decide) w)
  clear F12
  refine wp_region_later (by kernel_rfl) (by kernel_rfl) ?_
  simp only [List.append_eq, List.cons_append, List.nil_append]
  iterate 58 go_big_quiet_step (fail)
  go_big_quiet_step ((go_at_call 20; exact Calls.later (RA.out _)))
  iterate 3 go_big_quiet_step (fail)
  go_big_quiet_step ((go_at_call 20; exact Calls.later (RB.out _)))
  iterate 3 go_big_quiet_step (fail)
  refine wpQuiet_nil ?_
  rintro ⟨w12, hb12⟩
  go_wp2_with fail
  go_ret
  exact ⟨rfl, ext_trans B12.out hb12⟩

end Go.Proofs.Ytkogjhdcakjpeaa
