/- The walk of offer.Make (layer 9). -/
import Derived.Test.YtlfgempjjoclbaaLHdMeetPlain
namespace Sough
/-- Numbers from below m down to 0. -/
def down : Nat → List Nat
  | 0 => []
  | m + 1 => m :: down m
def makeP (l : List Nat) (k : Nat) : List UInt8 := (((List.range k).map fun i => 255 - i).filter fun v => decide (v ∈ l)).map UInt8.ofNat
def makeO (l : List Nat) : List UInt8 := makeP l 256
theorem down_is : ((List.range 256).map fun i => 255 - i) = down 256 := by decide +kernel
theorem down_dec (l : List Nat) (h0 : 0 ∉ l) : ∀ m, m ≤ 256 → ∀ last, m ≤ last → offDec last (((down m).filter fun v => decide (v ∈ l)).map UInt8.ofNat) = true := by
  intro m
  induction m with
  | zero => intro _ last _; rfl
  | succ m ih =>
    intro hm last hl
    unfold down
    by_cases h : m ∈ l
    · rw [List.filter_cons_of_pos (by simpa using h), List.map_cons]
      unfold offDec
      have hm0 : m ≠ 0 := fun e => h0 (e ▸ h)
      rw [u8_of m (by omega), ih (by omega) m (Nat.le_refl _)]
      simp
      omega
    · rw [List.filter_cons_of_neg (by simpa using h)]
      exact ih (by omega) last (by omega)
theorem down_mem : ∀ m v, v ∈ down m ↔ v < m := by
  intro m
  induction m with
  | zero => intro v; simp [down]
  | succ m ih => intro v; simp [down, ih]; omega
theorem down_nodup : ∀ m, (down m).Nodup := by
  intro m
  induction m with
  | zero => simp [down]
  | succ m ih => simp [down, ih, down_mem]
theorem few_in {L : List Nat} (hL : L.Nodup) : ∀ l : List Nat, (L.filter fun v => decide (v ∈ l)).length ≤ l.length := by
  intro l
  induction l with
  | nil => simp
  | cons a l ih =>
    have h1 : (L.filter fun v => decide (v ∈ a :: l)).length ≤ (L.filter fun v => decide (v = a)).length + (L.filter fun v => decide (v ∈ l)).length := by
      clear ih hL
      induction L with
      | nil => simp
      | cons b L ih2 =>
        simp only [List.filter_cons]
        by_cases h1 : b = a
        · subst h1
          by_cases h2 : b ∈ l
          · simp [h2]; simp at ih2; omega
          · simp [h2]; simp at ih2; omega
        · by_cases h2 : b ∈ l
          · simp [h1, h2]; simp at ih2; omega
          · simp [h1, h2]; simp at ih2; omega
    have h2 : (L.filter fun v => decide (v = a)).length ≤ 1 := by
      have := List.nodup_iff_count.1 hL a
      rw [List.count_eq_length_filter] at this
      simpa [BEq.beq] using this
    simp only [List.length_cons]
    omega
theorem make_len (l : List Nat) : (makeO l).length ≤ l.length := by
  unfold makeO makeP
  rw [down_is, List.length_map]
  exact few_in (down_nodup 256) l
theorem make_some {l : List Nat} (hl : l ≠ []) (h : ∀ v ∈ l, v < 256) : 1 ≤ (makeO l).length := by
  obtain ⟨a, r, rfl⟩ := List.exists_cons_of_ne_nil hl
  unfold makeO makeP
  rw [down_is, List.length_map]
  exact List.length_pos_of_mem (List.mem_filter.2 ⟨(down_mem 256 a).2 (h a (List.mem_cons_self ..)), by simp⟩)
theorem make_ok {l : List Nat} (hl : l ≠ []) (h8 : l.length ≤ 8) (h : ∀ v ∈ l, 1 ≤ v ∧ v < 256) : offerOk (makeO l) = true := by
  unfold offerOk
  rw [Bool.and_eq_true, decide_eq_true_eq]
  refine ⟨?_, make_some hl fun v hv => (h v hv).2, Nat.le_trans (make_len l) h8⟩
  unfold makeO makeP
  rw [down_is]
  exact down_dec l (fun h0 => by have := (h 0 h0).1; omega) 256 (Nat.le_refl _) 256 (Nat.le_refl _)
theorem makeP_succ (l : List Nat) (k : Nat) : makeP l (k + 1) = makeP l k ++ (if 255 - k ∈ l then [UInt8.ofNat (255 - k)] else []) := by
  unfold makeP
  rw [List.range_succ, List.map_append, List.filter_append, List.map_append]
  congr 1
  by_cases h : 255 - k ∈ l
  · simp [h]
  · simp [h]
theorem makeP_len (l : List Nat) (k : Nat) : (makeP l k).length ≤ k := by
  unfold makeP
  rw [List.length_map]
  exact Nat.le_trans (List.length_filter_le _ _) (by simp)
end Sough
namespace Go.Proofs.Ytlfgempjjoclbaa
open Go.RowKit Go.Maps Go.ChangeMaps

/-- Which versions are there. -/
def hasC (l : List Nat) : Array Value := ((List.range 256).map fun i => Value.bool (decide (i ∈ l))).toArray
theorem hasC_get (l : List Nat) {v : Nat} (hv : v < 256) : (hasC l)[v]? = some (.bool (decide (v ∈ l))) := by
  unfold hasC
  rw [List.getElem?_toArray, List.getElem?_map, List.getElem?_range hv]; rfl
theorem hasC_set (l : List Nat) {v : Nat} (hv : v < 256) : (hasC l).setIfInBounds v (.bool true) = hasC (l ++ [v]) := by
  apply Array.ext'
  unfold hasC
  rw [List.setIfInBounds_toArray]
  apply List.ext_getElem?
  intro i
  rw [List.getElem?_set]
  simp only [List.getElem?_map, List.length_map, List.length_range]
  by_cases h : v = i
  · subst h
    rw [if_pos rfl, if_pos hv, List.getElem?_range hv]; simp
  · rw [if_neg h]
    by_cases hi : i < 256
    · rw [List.getElem?_range hi]
      simp [Ne.symm h]
    · rw [List.getElem?_eq_none (by simpa using hi)]; rfl
theorem hasC_nil : Try.zeroCells106 = hasC [] := by kernel_rfl
def MakeR1 (l : List Nat) (W : World) (iv : Value) (wr : World) : Prop := ∃ k : Nat, k ≤ l.length ∧ iv = .int .i64 k ∧ wr.heap[W.heap.size]? = some (.cells (hasC (l.take k)) 106 (0, 0)) ∧ Below W.heap.size W wr
def MakeR2 (l : List Nat) (W : World) (ov iv : Value) (wr : World) : Prop := ∃ k : Nat, k ≤ 256 ∧ iv = .int .i64 k ∧ wr.ownsRow (W.heap.size + 1) 5 1 ov (Sough.makeP l k).length (bytesV (Sough.makeP l k)) ∧
  wr.heap[W.heap.size]? = some (.cells (hasC l) 106 (0, 0)) ∧ Below W.heap.size W wr
theorem has_cell {w : World} {b : Nat} {l : List Nat} {T : TypeId} (h : w.heap[b]? = some (.cells (hasC l) T (0, 0))) {x : Nat} (hx : x < 256) : w.cell? ⟨b, x, none⟩ = some (.bool (decide (x ∈ l))) ∧ w.frozen? ⟨b, x, none⟩ = false := by
  refine ⟨?_, by simp [World.frozen?, h]⟩
  simp [World.cell?, h, hasC_get l hx]
theorem has_set {w : World} {b : Nat} {l : List Nat} {T : TypeId} (h : w.heap[b]? = some (.cells (hasC l) T (0, 0))) {x : Nat} (hx : x < 256) : (w.setCell ⟨b, x, none⟩ (.bool true)).heap[b]? = some (.cells (hasC (l ++ [x])) T (0, 0)) := by
  rw [← hasC_set l hx]
  simp only [World.setCell, Array.getElem?_modify, if_pos, h]
  simp

set_option maxRecDepth 100000 in
set_option maxHeartbeats 1600000 in
theorem make_any {W : World} {l : List Nat} {v : Value} {B : Nat} (hv : W.ownsRow B 3 1 v l.length (l.map fun n : Nat => Value.int .i64 (n : Int))) (h8 : l.length ≤ 8) (h : ∀ v ∈ l, 1 ≤ v ∧ v < 256) :
    Calls Try.prog 19 #[v] W fun e w' => e = .returned (.tuple #[.string ⟨(if l = [] then [] else Sough.makeO l).toArray⟩, .int .i64 (if l = [] then 1 else 0)]) ∧ Below W.heap.size W w' := by
  have hex : ∃ a cap, v = .slice a l.length cap ∧ ∀ k (hk : k < l.length), ∃ g, a = some ⟨g, 0, none⟩ ∧ g < W.heap.size ∧ W.cell? ⟨g, k, none⟩ = some (.int .i64 ((l[k] : Nat) : Int)) := by
    have hc := fun g (hg : v.ownBlock = some g) => hv.cells hg
    rcases hv.2 with ⟨e, h0⟩ | ⟨g, cap, cur, e, _, hh, _⟩
    · exact ⟨none, 0, by rw [e, h0], fun k hk => by omega⟩
    · refine ⟨some ⟨g, 0, none⟩, cap, e, fun k hk => ⟨g, rfl, lt_of_block hh, ?_⟩⟩
      subst e
      have := hc g rfl k (.int .i64 ((l[k] : Nat) : Int)) (by simp [hk])
      rw [show (⟨g, 0, none⟩ : Addr).add k = ⟨g, 0 + k, none⟩ from Go.WideShapes.add_plain _ _ _, Nat.zero_add] at this
      exact this
  obtain ⟨a, cap, rfl, hel⟩ := hex
  have HEL := Lib.hid hel; have H8 := Lib.hid h8; have H := Lib.hid h
  obtain ⟨i0, hinf, hz0, hz1, hz2⟩ := info_parts info5
  obtain ⟨n, hn⟩ : ∃ n, n = l.length := ⟨_, rfl⟩
  have HN := Lib.hid hn
  rw [← hn] at h8 ⊢
  clear hv hel h hn
  go_enter Try.func19, Try.ntmps19
  go_wp2_with fail
  go_loopw [12] (fun iv wr => MakeR1 l W iv wr) (fun iv _ => n - (intOf iv).toNat)
  case atStart => exact ⟨0, Nat.zero_le _, rfl, by rw [hasC_nil]; exact heap_alloc_new _ _, (Below.refl _ _).alloc (Nat.le_refl _) _⟩
  case round =>
    obtain ⟨k, hk, rfl, hh, hbel⟩ := hrel
    rw [← HN.out] at hk
    by_cases hlt : k < n
    · have hkl : k < l.length := by rw [← HN.out]; exact hlt
      obtain ⟨g, rfl, hg, hc⟩ := HEL.out k hkl
      obtain ⟨x, hx⟩ : ∃ x, x = l[k] := ⟨_, rfl⟩
      have hxx := H.out l[k] (List.getElem_mem _)
      rw [← hx] at hc hxx
      obtain ⟨hx1, hx2⟩ := hxx
      have c0 := (hbel.block g hg)
      have c0 : wr.cell? ⟨g, k, none⟩ = some (.int .i64 (x : Int)) := by
        rw [← hc]; simp only [World.cell?, c0]
      obtain ⟨c1, f1⟩ := has_cell hh hx2
      have hnext := has_set hh hx2
      have htk : l.take k ++ [x] = l.take (k + 1) := by rw [List.take_succ_eq_append_getElem hkl, hx]
      rw [htk] at hnext
      have HR : Hid (MakeR1 l W (.int .i64 ((k : Int) + 1)) (wr.setCell ⟨W.heap.size, x, none⟩ (.bool true))) := Lib.hid ⟨k + 1, by rw [← HN.out]; omega, by push_cast; rfl, hnext, hbel.setCell (Nat.le_refl _) _⟩
      have d1 : decide ((x : Int) < 1) = false := by simp; omega
      have d2 : decide ((256 : Int) ≤ (x : Int)) = false := by simp; omega
      clear hh hbel hnext htk hx hkl
      go_wp2_with fail
      go_roundw
      case rel => exact HR.out
      case measure => simp [intOf]; omega
    · rw [List.take_of_length_le (by rw [← HN.out]; omega)] at hh
      have HH := Lib.hid hh; have HB := Lib.hid hbel
      clear hh hbel
      go_wp2_with fail
      go_loopw [7, 25] (fun ov iv wr => MakeR2 l W ov iv wr) (fun _ iv _ => 256 - (intOf iv).toNat)
      case atStart => exact ⟨0, Nat.zero_le _, rfl, World.ownsRow_nil _ _ _ _, HH.out, HB.out⟩
      case round =>
        obtain ⟨k2, hk2, rfl, hown, hh, hbel⟩ := hrel
        by_cases hlt2 : k2 < 256
        · obtain ⟨x, hx⟩ : ∃ x, x = 255 - k2 := ⟨_, rfl⟩
          have hsub : (255 : Int) - (k2 : Int) = (x : Int) := by omega
          have hx2 : x < 256 := by omega
          obtain ⟨c1, f1⟩ := has_cell hh hx2
          have hsz : W.heap.size < wr.heap.size := lt_of_block hh
          have hsucc := Sough.makeP_succ l k2
          rw [← hx] at hsucc
          have hlen := Sough.makeP_len l k2
          have HS := Lib.hid hsucc; have HH2 := Lib.hid hh; have HB2 := Lib.hid hbel; have HO := Lib.hid hown
          obtain ⟨b, hb⟩ : ∃ b, decide (x ∈ l) = b := ⟨_, rfl⟩
          rw [hb] at c1
          obtain ⟨u, hu⟩ : ∃ u, u = Sough.makeP l k2 := ⟨_, rfl⟩
          have HU := Lib.hid hu
          rw [← hu] at hown hlen
          clear hsucc hh hbel hu hx
          cases b
          · have hx3 : x ∉ l := by simpa using hb
            have HR : Hid (MakeR2 l W _ (.int .i64 ((k2 : Int) + 1)) wr) := Lib.hid ⟨k2 + 1, by omega, by push_cast; rfl, by rw [HS.out, if_neg hx3, List.append_nil]; exact HO.out, HH2.out, HB2.out⟩
            clear hown hx3 HO
            go_wp2_with fail
            go_roundw
            case rel => exact HR.out
            case measure => simp [intOf]; omega
          · have hx3 : x ∈ l := by simpa using hb
            have HXC := Lib.hid (show (x : Int) = ((UInt8.ofNat x).toNat : Int) by rw [Sough.u8_of x hx2])
            clear HO
            go_wp2_with (at_builtin; refine wpList_append_own _ rfl _ _ 60 rfl (W.heap.size + 1) 5 i0 (.int .u8 0) 1 1 Try.underlying60 hinf hz0 hz1 hz2 rfl (by decide) _ _ _ rfl (hown.alloc _) ⟨wr.heap.size, 0, none⟩ 1 1 [.int .u8 (x : Int)] rfl rfl ?c1 ?c2 ?c3 ?c4 ?c5 ?_)
            case c1 =>
              intro j u hj
              match j, hj with
              | 0, hj => simp at hj; subst hj; simp [Addr.add]
            case c2 => intro u hu; simp at hu; subst hu; rfl
            case c3 => unfold maxLen; omega
            case c4 => omega
            case c5 => simp; omega
            intro v' w2 hown' hgrow' _
            rw [HXC.out] at hown'
            have hkeep : w2.heap[W.heap.size]? = some (.cells (hasC l) 106 (0, 0)) := by
              rw [← HH2.out]
              refine (hgrow'.block _ (by simp; omega) (fun e => ?_)).trans (Below.heap_alloc _ _ _ hsz)
              rcases hown.2 with ⟨rfl, _⟩ | ⟨g, cap, cur, rfl, hg, _⟩
              · simp [Value.ownBlock] at e
              · simp only [Value.ownBlock, Option.some.injEq] at e
                omega
            obtain ⟨hown2, hbel2⟩ := both_own (UInt8.ofNat x) hsz _ hown hown' hgrow'
            have HR : Hid (MakeR2 l W v' (.int .i64 ((k2 : Int) + 1)) w2) := Lib.hid ⟨k2 + 1, by omega, by push_cast; rfl, by rw [HS.out, if_pos hx3, ← HU.out]; exact hown2, hkeep, HB2.out.trans (hbel2.mono (Nat.le_succ _))⟩
            clear hown hown2 hbel2 hown' hgrow' hkeep hx3
            go_wp2_with fail
            go_roundw
            case rel => exact HR.out
            case measure => simp [intOf]; omega
        · obtain rfl : k2 = 256 := by omega
          have HB2 := Lib.hid hbel
          rcases Nat.eq_zero_or_pos l.length with hl0 | hl0
          · obtain rfl := List.length_eq_zero_iff.1 hl0
            have e0 : Sough.makeP [] 256 = [] := List.length_eq_zero_iff.1 (Nat.le_zero.1 (Sough.make_len []))
            rw [e0] at hown
            obtain ⟨g, cap2, rfl, hconv⟩ := conv_own hown
            clear hown hbel hh
            go_wp2_with fail
            go_ret2
            exact ⟨rfl, HB2.out⟩
          · have hne : l ≠ [] := fun e => by rw [e] at hl0; simp at hl0
            have hm1 := Sough.make_some hne fun v hv => (H.out v hv).2
            have hm2 := Nat.le_trans (Sough.make_len l) H8.out
            obtain ⟨g, cap2, rfl, hconv⟩ := conv_own hown
            rw [show Sough.makeP l 256 = Sough.makeO l from rfl] at hconv ⊢
            have HC := Lib.hid hconv
            obtain ⟨m, hm⟩ : ∃ m, m = (Sough.makeO l).length := ⟨_, rfl⟩
            rw [← hm] at hm1 hm2 hconv ⊢
            have d1 : decide ((m : Int) < 1) = false := by simp; omega
            have d2 : decide ((8 : Int) < (m : Int)) = false := by simp; omega
            clear hown hbel hh hm HC
            go_wp2_with fail
            go_ret2
            exact ⟨by first | rfl | (rw [if_neg hne, if_neg hne]; rfl), HB2.out⟩
end Go.Proofs.Ytlfgempjjoclbaa
