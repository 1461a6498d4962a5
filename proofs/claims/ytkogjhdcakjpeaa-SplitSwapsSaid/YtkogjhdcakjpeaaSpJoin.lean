/- The walk of split.Join. -/
import Derived.Test.YtkogjhdcakjpeaaSpCut3
namespace Sough

def fragAt (fs : List Frag) (i : Nat) : Frag := fs.getD i zeroFrag
def Good (fs : List Frag) (i : Nat) : Prop := (fragAt fs i).ok ∧ (fragAt fs i).id = (fragAt fs 0).id ∧ (fragAt fs i).count = fs.length ∧ (fragAt fs i).index = i
instance goodDec (fs : List Frag) (i : Nat) : Decidable (Good fs i) := by unfold Good; infer_instance
def joined (fs : List Frag) (k : Nat) : List UInt8 := (fs.take k).flatMap (·.part)
/-- The message of parts, and what is wrong. -/
def join (fs : List Frag) : List UInt8 × Nat :=
  if fs.length < 1 ∨ 16 < fs.length then ([], 3)
  else if ∀ i, i < fs.length → Good fs i then (if 4096 < (joined fs fs.length).length then ([], 4) else (joined fs fs.length, 0)) else ([], 3)
theorem joined_succ (fs : List Frag) {k : Nat} (hk : k < fs.length) : joined fs (k + 1) = joined fs k ++ (fragAt fs k).part := by
  unfold joined fragAt
  rw [List.take_add_one, List.getElem?_eq_getElem hk, List.flatMap_append, List.getD_eq_getElem?_getD, List.getElem?_eq_getElem hk]
  simp
theorem joined_len (fs : List Frag) {k : Nat} (hk : k ≤ fs.length) (h : ∀ i, i < k → Good fs i) : (joined fs k).length ≤ 1000 * k := by
  induction k with
  | zero => simp [joined]
  | succ k ih =>
    have h1 := ih (by omega) (fun i hi => h i (by omega))
    have h2 := (h k (by omega)).1.2.2.2.2.2.2.2
    rw [joined_succ fs (by omega)]
    simp only [List.length_append]
    omega

end Sough
namespace Go.Proofs.Ytkogjhdcakjpeaa
open Go.RowKit Go.Shelf

theorem right_as {f : Sough.Frag} {b : Bool} (hr : f.right = b) (w : World) :
    Calls Try.prog 20 #[.agg #[.int .u64 f.id, .int .i64 f.index, .int .i64 f.count, .string ⟨f.part.toArray⟩]] w fun e w' => e = .returned (.bool b) ∧ Below w.heap.size w w' := by
  subst hr
  exact right_walk f.id f.index f.count ⟨f.part.toArray⟩ w
theorem rright_as {f : Sough.Frag} {b : Bool} (hr : f.right = b) (w : World) :
    Calls Try.prog 21 #[.agg #[.int .u64 f.id, .int .i64 f.index, .int .i64 f.count, .string ⟨f.part.toArray⟩]] w fun e w' => e = .returned (.bool b) ∧ Below w.heap.size w w' := by
  subst hr
  exact rright_walk f.id f.index f.count ⟨f.part.toArray⟩ w

/-- A row of parts lies there. -/
def FragsAt (w : World) (b o : Nat) (fs : List Sough.Frag) : Prop :=
  ∀ i, i < fs.length → w.cell? ⟨b, o + i * 4, none⟩ = some (.int .u64 (Sough.fragAt fs i).id) ∧ w.cell? ⟨b, o + i * 4 + 1, none⟩ = some (.int .i64 (Sough.fragAt fs i).index) ∧
    w.cell? ⟨b, o + i * 4 + 2, none⟩ = some (.int .i64 (Sough.fragAt fs i).count) ∧ w.cell? ⟨b, o + i * 4 + 3, none⟩ = some (.string ⟨(Sough.fragAt fs i).part.toArray⟩)
theorem FragsAt.later {w w' : World} {b o : Nat} {fs : List Sough.Frag} (h : FragsAt w b o fs) (hb : Below w.heap.size w w') : FragsAt w' b o fs := fun i hi =>
  have k := h i hi
  ⟨(hb.cell (World.block_lt_of_cell? w _ k.1)).trans k.1, (hb.cell (World.block_lt_of_cell? w _ k.2.1)).trans k.2.1, (hb.cell (World.block_lt_of_cell? w _ k.2.2.1)).trans k.2.2.1, (hb.cell (World.block_lt_of_cell? w _ k.2.2.2)).trans k.2.2.2⟩

def JoinR (fs : List Sough.Frag) (w : World) (sv iv : Value) (wr : World) : Prop :=
  ∃ k : Nat, k ≤ fs.length ∧ (∀ i, i < k → Sough.Good fs i) ∧ sv = .string ⟨(Sough.joined fs k).toArray⟩ ∧ iv = .int .i64 k ∧ Below w.heap.size w wr

theorem JoinR.next {fs : List Sough.Frag} {f : Sough.Frag} {n k : Nat} {w wr : World} (hn : n = fs.length) (hk : k < n) (hs : Sough.joined fs (k + 1) = Sough.joined fs k ++ f.part) (hg : ∀ i, i < k → Sough.Good fs i) (hgk : Sough.Good fs k) (hb : Below w.heap.size w wr) :
    JoinR fs w (.string ((⟨(Sough.joined fs k).toArray⟩ : ByteArray) ++ ⟨f.part.toArray⟩)) (.int .i64 ((k : Int) + 1)) wr :=
  ⟨k + 1, by omega, fun i hi => (Nat.lt_or_eq_of_le (Nat.le_of_lt_succ hi)).elim (hg i) (fun h => h ▸ hgk), by rw [bytes_append, hs], by simp, hb⟩
theorem joined_len' {fs : List Sough.Frag} {n k : Nat} (hn : n = fs.length) (hk : k ≤ n) (h : ∀ i, i < k → Sough.Good fs i) : (Sough.joined fs k).length ≤ 1000 * k := Sough.joined_len fs (by omega) h

theorem join_bad {fs : List Sough.Frag} {k : Nat} (h1 : 1 ≤ fs.length) (h2 : fs.length ≤ 16) (hk : k < fs.length) (hn : ¬ Sough.Good fs k) : Sough.join fs = ([], 3) := by
  unfold Sough.join
  rw [if_neg (by omega), if_neg (fun h => hn (h k hk))]

theorem join_all {fs : List Sough.Frag} {k : Nat} (h1 : 1 ≤ k) (h2 : k ≤ 16) (hk : k = fs.length) (hg : ∀ i, i < k → Sough.Good fs i) :
    Sough.join fs = if 4096 < (Sough.joined fs k).length then ([], 4) else (Sough.joined fs k, 0) := by
  subst hk
  unfold Sough.join
  rw [if_neg (by omega), if_pos hg]

set_option maxRecDepth 100000 in
set_option maxHeartbeats 6400000 in
theorem join_some {b o cap : Nat} {fs : List Sough.Frag} {t : List UInt8} {er : Nat} (hj : Sough.join fs = (t, er)) (h1 : 1 ≤ fs.length) (h2 : fs.length ≤ 16) (w : World) (hf : FragsAt w b o fs) :
    Calls Try.prog 12 #[.slice (some ⟨b, o, none⟩) fs.length cap] w fun e w' => e = .returned (.tuple #[.string ⟨t.toArray⟩, .int .i64 er]) ∧ Below w.heap.size w w' := by
  have HF := Lib.hid hf; have HJ := Lib.hid hj; clear hf hj
  obtain ⟨n, hn⟩ : ∃ n, n = fs.length := ⟨_, rfl⟩
  have d1 : decide ((n : Int) < 1) = false := by simp; omega
  have d2 : decide ((16 : Int) < n) = false := by simp; omega
  rw [← hn] at h1 h2 ⊢
  have HN := Lib.hid hn; clear hn
  go_enter Try.func12, Try.ntmps12
  go_wp2_with fail
  go_loopw [4, 17] (fun sv iv wr => JoinR fs w sv iv wr) (fun _ i _ => 16 - (intOf i).toNat)
  case atStart => exact ⟨0, by omega, fun i hi => absurd hi (by omega), rfl, rfl, Below.refl _ _⟩
  case round =>
    obtain ⟨k, hk, hgood, rfl, rfl, hbel⟩ := hrel
    have HB := Lib.hid hbel
    have HG := Lib.hid hgood
    clear hgood
    rw [← HN.out] at hk
    by_cases hlt : k < n
    · have F := HF.out.later hbel k (by rw [← HN.out]; exact hlt)
      obtain ⟨F0, F1, F2, F3⟩ := F
      have G0 := ((HF.out.later hbel) 0 (by rw [← HN.out]; omega)).1
      simp only [Nat.zero_mul, Nat.add_zero] at G0
      clear hbel
      have hfd : ¬ Sough.Good fs k ∨ Sough.Good fs k := Decidable.em _ |>.symm
      have hgl := joined_len' HN.out (Nat.le_of_lt hlt) HG.out
      have hsucc := Sough.joined_succ fs (k := k) (by rw [← HN.out]; exact hlt)
      have hgd : Sough.Good fs k ↔ (Sough.fragAt fs k).ok ∧ (Sough.fragAt fs k).id = (Sough.fragAt fs 0).id ∧ (Sough.fragAt fs k).count = n ∧ (Sough.fragAt fs k).index = k := by rw [HN.out]; rfl
      generalize Sough.fragAt fs k = f at *
      generalize Sough.fragAt fs 0 = f0 at *
      go_wp2_with fail
      have c0 := World.cell?_alloc_mark wr #[.int .u64 f.id, .int .i64 f.index, .int .i64 f.count, .string ⟨f.part.toArray⟩] 26 (0, 0) 0
      have c1 := World.cell?_alloc_mark wr #[.int .u64 f.id, .int .i64 f.index, .int .i64 f.count, .string ⟨f.part.toArray⟩] 26 (0, 0) 1
      have c2 := World.cell?_alloc_mark wr #[.int .u64 f.id, .int .i64 f.index, .int .i64 f.count, .string ⟨f.part.toArray⟩] 26 (0, 0) 2
      have c3 := World.cell?_alloc_mark wr #[.int .u64 f.id, .int .i64 f.index, .int .i64 f.count, .string ⟨f.part.toArray⟩] 26 (0, 0) 3
      simp only [List.getElem?_toArray, List.getElem?_cons_succ, List.getElem?_cons_zero] at c0 c1 c2 c3
      have g0 := ((Below.refl wr.heap.size wr).alloc (Nat.le_refl _) (.cells #[.int .u64 f.id, .int .i64 f.index, .int .i64 f.count, .string ⟨f.part.toArray⟩] 26)).cell (World.block_lt_of_cell? wr _ G0) |>.trans G0
      have hW : Below wr.heap.size wr (wr.alloc (.cells #[.int .u64 f.id, .int .i64 f.index, .int .i64 f.count, .string ⟨f.part.toArray⟩] 26)) := (Below.refl _ _).alloc (Nat.le_refl _) _
      generalize wr.alloc (.cells #[.int .u64 f.id, .int .i64 f.index, .int .i64 f.count, .string ⟨f.part.toArray⟩] 26) = W at *
      have x0 : ∀ x : Later W, x.world.cell? ⟨wr.heap.size, 0, none⟩ = some (.int .u64 f.id) := fun x => x.cell c0
      have x1 : ∀ x : Later W, x.world.cell? ⟨wr.heap.size, 1, none⟩ = some (.int .i64 f.index) := fun x => x.cell c1
      have x2 : ∀ x : Later W, x.world.cell? ⟨wr.heap.size, 2, none⟩ = some (.int .i64 f.count) := fun x => x.cell c2
      have x3 : ∀ x : Later W, x.world.cell? ⟨wr.heap.size, 3, none⟩ = some (.string ⟨f.part.toArray⟩) := fun x => x.cell c3
      have y0 : ∀ x : Later W, x.world.cell? ⟨b, o, none⟩ = some (.int .u64 f0.id) := fun x => x.cell g0
      have HW := Lib.hid hW
      have C3 := Lib.hid c3
      clear hW c0 c1 c2 c3 g0 F0 F1 F2 F3 G0
      by_cases hgk : Sough.Good fs k
      · have hg' := hgk
        rw [hgd] at hg'
        have hr : f.right = true := (Sough.right_iff f).2 hg'.1
        have e1 : ((f.id : Int) != (f0.id : Int)) = false := by simp [hg'.2.1]
        have e2 : (f.count != (n : Int)) = false := by simp [hg'.2.2.1]
        have e3 : (f.index != (k : Int)) = false := by simp [hg'.2.2.2]
        have hfl := hg'.1.2.2.2.2.2.2.2
        have HGK := Lib.hid hgk
        clear hgd hg' hfd hgk
        refine wp_region_later (by kernel_rfl) (by kernel_rfl) ?_
        repeat (go_big_quiet_step ((go_at_call 20; exact Calls.later (right_as hr _))))
        refine wpQuiet_nil ?_
        rintro ⟨w2, hb2⟩
        have c3 := (hb2.cell (World.block_lt_of_cell? W _ C3.out)).trans C3.out
        go_wp2_with fail
        go_roundw
        case rel => exact JoinR.next HN.out hlt hsucc HG.out HGK.out (HB.out.trans ((HW.out.trans (hb2.mono HW.out.size)).mono HB.out.size))
        case measure => simp [intOf]; omega
      · have HNG := Lib.hid hgk
        rw [hgd] at hgk
        by_cases q0 : f.ok
        · have hr : f.right = true := (Sough.right_iff f).2 q0
          by_cases q1 : f.id = f0.id
          · have e1 : ((f.id : Int) != (f0.id : Int)) = false := by simp [q1]
            by_cases q2 : f.count = (n : Int)
            · have e2 : (f.count != (n : Int)) = false := by simp [q2]
              have e3 : (f.index != (k : Int)) = true := by simp; intro q3; exact hgk ⟨q0, q1, q2, q3⟩
              clear hgd hgk hfd q0 q1 q2
              refine wp_region_later (by kernel_rfl) (by kernel_rfl) ?_
              repeat (go_big_quiet_step ((go_at_call 20; exact Calls.later (right_as hr _))))
              refine wpQuiet_nil ?_
              rintro ⟨w2, hb2⟩
              go_wp2_with fail
              go_ret2
              have hb := join_bad (by have := HN.out; omega) (by have := HN.out; omega) (by have := HN.out; omega) HNG.out
              obtain ⟨rfl, rfl⟩ := Prod.mk.inj (HJ.out.symm.trans hb)
              exact ⟨rfl, HB.out.trans ((HW.out.trans (hb2.mono HW.out.size)).mono HB.out.size)⟩
            · have e2 : (f.count != (n : Int)) = true := by simp [q2]
              clear hgd hgk hfd q0 q1 q2
              refine wp_region_later (by kernel_rfl) (by kernel_rfl) ?_
              repeat (go_big_quiet_step ((go_at_call 20; exact Calls.later (right_as hr _))))
              refine wpQuiet_nil ?_
              rintro ⟨w2, hb2⟩
              go_wp2_with fail
              go_ret2
              have hb := join_bad (by have := HN.out; omega) (by have := HN.out; omega) (by have := HN.out; omega) HNG.out
              obtain ⟨rfl, rfl⟩ := Prod.mk.inj (HJ.out.symm.trans hb)
              exact ⟨rfl, HB.out.trans ((HW.out.trans (hb2.mono HW.out.size)).mono HB.out.size)⟩
          · have e1 : ((f.id : Int) != (f0.id : Int)) = true := by simp; omega
            clear hgd hgk hfd q0 q1
            refine wp_region_later (by kernel_rfl) (by kernel_rfl) ?_
            repeat (go_big_quiet_step ((go_at_call 20; exact Calls.later (right_as hr _))))
            refine wpQuiet_nil ?_
            rintro ⟨w2, hb2⟩
            go_wp2_with fail
            go_ret2
            have hb := join_bad (by have := HN.out; omega) (by have := HN.out; omega) (by have := HN.out; omega) HNG.out
            obtain ⟨rfl, rfl⟩ := Prod.mk.inj (HJ.out.symm.trans hb)
            exact ⟨rfl, HB.out.trans ((HW.out.trans (hb2.mono HW.out.size)).mono HB.out.size)⟩
        · have hr : f.right = false := by rw [Bool.eq_false_iff]; exact fun h => q0 ((Sough.right_iff f).1 h)
          clear hgd hgk hfd q0
          refine wp_region_later (by kernel_rfl) (by kernel_rfl) ?_
          repeat (go_big_quiet_step ((go_at_call 20; exact Calls.later (right_as hr _))))
          refine wpQuiet_nil ?_
          rintro ⟨w2, hb2⟩
          go_wp2_with fail
          go_ret2
          have hb := join_bad (by have := HN.out; omega) (by have := HN.out; omega) (by have := HN.out; omega) HNG.out
          obtain ⟨rfl, rfl⟩ := Prod.mk.inj (HJ.out.symm.trans hb)
          exact ⟨rfl, HB.out.trans ((HW.out.trans (hb2.mono HW.out.size)).mono HB.out.size)⟩
    · obtain rfl : k = n := by omega
      clear hbel hlt
      have hall := join_all h1 h2 HN.out HG.out
      have HA := Lib.hid hall
      clear hall
      go_wp2_with fail
      all_goals
        rename_i hlong
        go_ret2
        have hall := HA.out
        first
          | rw [if_pos (by omega)] at hall
          | rw [if_neg (by omega)] at hall
        obtain ⟨rfl, rfl⟩ := Prod.mk.inj (HJ.out.symm.trans hall)
        exact ⟨rfl, HB.out⟩

end Go.Proofs.Ytkogjhdcakjpeaa
