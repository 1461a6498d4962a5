/- The walks of soughlaw11.Refs, soughref11.Same. -/
import Derived.Test.YtkogjhdcakjpeaaSpLaw
import Derived.Test.YtkogjhdcakjpeaaSpF
namespace Go.Proofs.Ytkogjhdcakjpeaa
open Go.RowKit Go.Shelf

theorem infoRFrag : (Try.prog.info? 43).map (fun i => (i.zero, i.size, i.bytes)) = some (some fragZero, 4, 40) := by kernel_rfl

/-- A slice value of the call's own that holds these parts. -/
def RowTo (T : TypeId) (fs : List Sough.Frag) (w : World) (e : Ending) (w' : World) : Prop :=
  ∃ v, e = .returned v ∧ w'.ownsRow w.heap.size T 4 v fs.length (fs.flatMap fragCells) ∧ Below w.heap.size w w'

def RefsR (fs : List Sough.Frag) (w : World) (ov iv : Value) (wr : World) : Prop :=
  ∃ k : Nat, k ≤ fs.length ∧ iv = .int .i64 k ∧ wr.ownsRow w.heap.size 43 4 ov k ((fs.take k).flatMap fragCells) ∧ Below w.heap.size w wr

theorem take_cells {fs : List Sough.Frag} {k : Nat} (hk : k < fs.length) : (fs.take (k + 1)).flatMap fragCells = (fs.take k).flatMap fragCells ++ fragCells (Sough.fragAt fs k) := by
  have e : Sough.fragAt fs k = fs[k] := by simp [Sough.fragAt, List.getD_eq_getElem?_getD, List.getElem?_eq_getElem hk]
  rw [List.take_succ_eq_append_getElem hk, e, List.flatMap_append]
  simp

theorem own_shape {w : World} {base size n : Nat} {e : TypeId} {v : Value} {xs : List Value} (h : w.ownsRow base e size v n xs) : ∃ a cap, v = .slice a n cap := by
  rcases h.2 with ⟨rfl, rfl⟩ | ⟨g, cap, cur, rfl, _⟩
  · exact ⟨_, _, rfl⟩
  · exact ⟨_, _, rfl⟩

theorem own_head {w : World} {base size n : Nat} {e : TypeId} {v : Value} {xs : List Value} (h : w.ownsRow base e size v n xs) (hn : 0 < n) : ∃ g cap, v = .slice (some ⟨g, 0, none⟩) n cap ∧ n ≤ cap ∧ cap ≤ maxLen := by
  rcases h.2 with ⟨_, h0⟩ | ⟨g, cap, _, h1, _, _, h2, h3, _⟩
  · omega
  · exact ⟨g, cap, h1, h2, h3⟩

/-- One part more behind an append. -/
theorem own_cells (W : World) (T : TypeId) (f : Sough.Frag) : ∀ (j : Nat) (u : Value), (fragCells f)[j]? = some u → (W.alloc (.cells #[.int .u64 f.id, .int .i64 f.index, .int .i64 f.count, .string ⟨f.part.toArray⟩] T)).cell? ((⟨W.heap.size, 0, none⟩ : Addr).add j) = some u := by
  intro j u hj
  rw [show (⟨W.heap.size, 0, none⟩ : Addr).add j = ⟨W.heap.size, 0 + j, none⟩ from Go.WideShapes.add_plain _ _ _, Nat.zero_add, World.cell?_alloc_mark]
  simpa [fragCells] using hj
theorem frag_one (f : Sough.Frag) : ∀ u ∈ fragCells f, u.oneCell' = true := by
  intro u hu; simp [fragCells] at hu; rcases hu with rfl | rfl | rfl | rfl <;> rfl
theorem RefsR.next {fs : List Sough.Frag} {f : Sough.Frag} {w wr w1 w2 : World} {k n : Nat} {v v' : Value} {xs : List Value} {o : Obj} (hn : n = fs.length) (hlt : k < n) (hs : (fs.take (k + 1)).flatMap fragCells = xs ++ fragCells f) (hb : Below w.heap.size w wr) (hb1 : Below wr.heap.size wr w1)
    (hown : w1.ownsRow w.heap.size 43 4 v k xs) (hown' : w2.ownsRow w.heap.size 43 4 v' (k + 1) (xs ++ fragCells f)) (hg : (w1.alloc o).grownBy w2 v.ownBlock) : RefsR fs w v' (.int .i64 (k + 1 : Nat)) w2 :=
  ⟨k + 1, by omega, rfl, by rw [hs]; exact hown', ((hb.trans (hb1.mono hb.size)).alloc (Nat.le_trans hb.size hb1.size) o).grown hg (by have := hb.size; have := hb1.size; simp; omega) (fun r e => (hown.lt r e).1)⟩

set_option maxRecDepth 100000 in
set_option maxHeartbeats 1600000 in
theorem refs_some {g cap : Nat} {fs : List Sough.Frag} (hl : fs.length ≤ 100000) (w : World) (hf : FragsAt w g 0 fs) :
    Calls Try.prog 14 #[.slice (some ⟨g, 0, none⟩) fs.length cap] w (RowTo 43 fs w) := by
  have HF := Lib.hid hf; clear hf
  obtain ⟨n, hn⟩ : ∃ n, n = fs.length := ⟨_, rfl⟩
  rw [← hn] at hl ⊢
  have HN := Lib.hid hn; clear hn
  obtain ⟨i0, hinf, hz0, hz1, hz2⟩ := info_parts infoRFrag
  go_enter Try.func14, Try.ntmps14
  go_wp2_with fail
  go_loopw [3, 4] (fun ov iv wr => RefsR fs w ov iv wr) (fun _ iv _ => n - (intOf iv).toNat)
  case atStart => exact ⟨0, Nat.zero_le _, rfl, World.ownsRow_made w #[] 0 (Nat.le_refl _) (Nat.zero_le _) rfl, (Below.refl _ _).alloc (Nat.le_refl _) _⟩
  case round =>
    obtain ⟨k, hk, rfl, hown, hbel⟩ := hrel
    have HB := Lib.hid hbel; have HO := Lib.hid hown
    rw [← HN.out] at hk
    by_cases hlt : k < n
    · have F := HF.out.later hbel k (by rw [← HN.out]; exact hlt)
      have hsucc := take_cells (k := k) (by rw [← HN.out]; exact hlt)
      obtain ⟨xs, hxs⟩ : ∃ xs, xs = (fs.take k).flatMap fragCells := ⟨_, rfl⟩
      rw [← hxs] at hsucc hown
      have HO' := Lib.hid hown
      have HS := Lib.hid hsucc
      obtain ⟨F0, F1, F2, F3⟩ := F
      simp only [Nat.zero_add] at F0 F1 F2 F3
      clear hbel hown hsucc HO hxs
      generalize Sough.fragAt fs k = f at *
      go_wp2_with fail
      refine (one_as f _).mono ?_; rintro e w1 ⟨rfl, hb1⟩
      have HB1 := Lib.hid hb1
      have hown1 := own_later HO'.out hb1
      clear hb1 HO'
      go_wp2_with (at_builtin; refine wpList_append_own _ rfl _ _ 31 rfl w.heap.size 43 i0 fragZero 4 40 Try.underlying31 hinf hz0 hz1 hz2 rfl (by decide) _ _ _ rfl (hown1.alloc _) ⟨w1.heap.size, 0, none⟩ 1 1 (fragCells f) rfl rfl ?c1 ?c2 ?c3 ?c4 ?c5 ?_)
      case c1 => exact own_cells w1 43 f
      case c2 => exact frag_one f
      case c3 => unfold maxLen; omega
      case c4 => omega
      case c5 => have := HB.out.size; have := HB1.out.size; simp; omega
      intro v' w2 hown' hgrow _
      have HR := Lib.hid (RefsR.next HN.out hlt HS.out HB.out HB1.out hown1 hown' hgrow)
      clear hown' hgrow hown1
      go_wp2
      go_roundw
      case rel => exact HR.out
      case measure => simp [intOf]; omega
    · obtain rfl : k = n := by omega
      clear hbel hown
      go_wp2
      go_ret
      have h := HO.out
      rw [List.take_of_length_le (by rw [← HN.out]; omega)] at h
      exact ⟨_, rfl, by rw [← HN.out]; exact h, HB.out⟩

theorem RowTo.none (T : TypeId) {w W : World} {v : Value} (hv : W.ownsRow w.heap.size T 4 v 0 []) (hb : Below w.heap.size w W) : RowTo T [] w (.returned v) W := ⟨v, rfl, hv, hb⟩
def NoneR (w : World) (ov iv : Value) (wr : World) : Prop := ov = .slice (some ⟨w.heap.size, 0, none⟩) 0 0 ∧ iv = .int .i64 0 ∧ w.alloc (.cells #[] 43) = wr

set_option maxRecDepth 100000 in
set_option maxHeartbeats 1600000 in
theorem refs_none (w : World) : Calls Try.prog 14 #[.slice none 0 0] w (RowTo 43 [] w) := by
  go_enter Try.func14, Try.ntmps14
  go_wp2_with fail
  go_loopw [3, 4] (fun ov iv wr => NoneR w ov iv wr) (fun _ _ _ => 0)
  case atStart => exact ⟨rfl, rfl, rfl⟩
  case round =>
    obtain ⟨rfl, rfl, rfl⟩ := hrel
    go_wp2
    go_ret
    exact ⟨_, rfl, World.ownsRow_made w #[] 0 (Nat.le_refl _) (Nat.zero_le _) rfl, (Below.refl _ _).alloc (Nat.le_refl _) _⟩

/-- soughlaw11.Refs. -/
theorem refs_as {v : Value} {fs : List Sough.Frag} {base : Nat} {e : TypeId} (hl : fs.length ≤ 100000) (w : World) (hv : w.ownsRow base e 4 v fs.length (fs.flatMap fragCells)) :
    Calls Try.prog 14 #[v] w (RowTo 43 fs w) := by
  rcases hv.2 with ⟨rfl, h0⟩ | ⟨g, cap, cur, rfl, _⟩
  · obtain rfl := List.length_eq_zero_iff.1 h0
    exact refs_none w
  · exact refs_some hl w (fragsAt_own hv)

end Go.Proofs.Ytkogjhdcakjpeaa
