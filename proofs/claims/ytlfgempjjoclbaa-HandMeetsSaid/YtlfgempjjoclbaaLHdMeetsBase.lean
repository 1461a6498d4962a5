/- What the loops of HandMeets leave; its values. (Printed by wip/tools/mkmeets.py.) -/
import Derived.Test.YtlfgempjjoclbaaLHdMake
namespace Sough
/-- The versions that come of the bytes. -/
def versL (ns : Nat → Nat) (len : Nat) : List Nat := (List.range (min len 8)).map fun i => 1 + ns i % 255
theorem vers_len (ns : Nat → Nat) (len : Nat) : (versL ns len).length = min len 8 := by simp [versL]
theorem vers_at {ns : Nat → Nat} {len k : Nat} (h : k < (versL ns len).length) : (versL ns len)[k] = 1 + ns k % 255 := by simp [versL]
theorem vers_ok (ns : Nat → Nat) (len : Nat) : ∀ v ∈ versL ns len, 1 ≤ v ∧ v < 256 := by
  intro v hv
  unfold versL at hv
  obtain ⟨i, _, rfl⟩ := List.mem_map.1 hv
  omega
/-- What comes of an offer: the text, what is wrong. -/
def makeE (l : List Nat) : List UInt8 × Nat := (if l = [] then [] else makeO l, if l = [] then 1 else 0)
/-- The best version is the same for both ends. -/
theorem sorted_same : ∀ (l m : List Nat), l.Pairwise (· > ·) → m.Pairwise (· > ·) → (∀ v, v ∈ l ↔ v ∈ m) → l = m := by
  intro l
  induction l with
  | nil =>
    intro m _ _ h
    cases m with
    | nil => rfl
    | cons b m => exact absurd ((h b).2 (List.mem_cons_self ..)) (by simp)
  | cons a l ih =>
    intro m hl hm h
    cases m with
    | nil => exact absurd ((h a).1 (List.mem_cons_self ..)) (by simp)
    | cons b m =>
      rw [List.pairwise_cons] at hl hm
      have hab : a = b := by
        rcases List.mem_cons.1 ((h a).1 (List.mem_cons_self ..)) with e | e
        · exact e
        · rcases List.mem_cons.1 ((h b).2 (List.mem_cons_self ..)) with e2 | e2
          · exact e2.symm
          · have := hm.1 a e; have := hl.1 b e2; omega
      subst hab
      congr 1
      refine ih m hl.2 hm.2 fun v => ⟨fun hv => ?_, fun hv => ?_⟩
      · rcases List.mem_cons.1 ((h v).1 (List.mem_cons_of_mem _ hv)) with e | e
        · subst e; have := hl.1 v hv; omega
        · exact e
      · rcases List.mem_cons.1 ((h v).2 (List.mem_cons_of_mem _ hv)) with e | e
        · subst e; have := hm.1 v hv; omega
        · exact e
theorem down_sorted : ∀ m, (down m).Pairwise (· > ·) := by
  intro m
  induction m with
  | zero => simp [down]
  | succ m ih => unfold down; rw [List.pairwise_cons]; exact ⟨fun v hv => (down_mem m v).1 hv, ih⟩
theorem both_make {a b : List Nat} (ha : a ≠ []) (hb : b ≠ []) (ha8 : a.length ≤ 8) (hb8 : b.length ≤ 8) (ka : ∀ v ∈ a, 1 ≤ v ∧ v < 256) (kb : ∀ v ∈ b, 1 ≤ v ∧ v < 256) :
    bothO (makeO a) (makeO b) = bothO (makeO b) (makeO a) := by
  have h : ∀ a b : List Nat, (∀ v ∈ a, v < 256) → (∀ v ∈ b, v < 256) → ((makeO a).filter fun c => (makeO b).contains c) = (((down 256).filter fun v => decide (v ∈ a) && decide (v ∈ b)).map UInt8.ofNat) := by
    intro a b _ hb
    unfold makeO makeP
    rw [down_is, List.filter_map, List.filter_filter]
    congr 1
    apply List.filter_congr
    intro v hv
    have hv256 := (down_mem 256 v).1 hv
    simp only [Function.comp]
    rw [Bool.and_comm]
    congr 1
    rw [Bool.eq_iff_iff]
    simp only [List.contains_iff_mem, List.mem_map, List.mem_filter, decide_eq_true_eq]
    constructor
    · rintro ⟨u, ⟨hu, hub⟩, e⟩
      have hu256 := (down_mem 256 u).1 hu
      have := congrArg UInt8.toNat e
      rw [u8_of u hu256, u8_of v hv256] at this
      rw [← this]; exact hub
    · intro h
      exact ⟨v, ⟨hv, h⟩, rfl⟩
  unfold bothO
  rw [make_ok ha ha8 ka, make_ok hb hb8 kb, if_pos ⟨rfl, rfl⟩, if_pos ⟨rfl, rfl⟩, h a b (fun v hv => (ka v hv).2) (fun v hv => (kb v hv).2), h b a (fun v hv => (kb v hv).2) (fun v hv => (ka v hv).2)]
  congr 1
  apply List.filter_congr
  intro v _
  rw [Bool.and_comm]
theorem best_make {a b : List Nat} (ha : a ≠ []) (hb : b ≠ []) (ha8 : a.length ≤ 8) (hb8 : b.length ≤ 8) (ka : ∀ v ∈ a, 1 ≤ v ∧ v < 256) (kb : ∀ v ∈ b, 1 ≤ v ∧ v < 256) :
    bestO (makeO a) (makeO b) = bestO (makeO b) (makeO a) ∧ ((bestO (makeO a) (makeO b)).2 = 0 ∨ (bestO (makeO a) (makeO b)).2 = 11) := by
  unfold bestO
  rw [make_ok ha ha8 ka, make_ok hb hb8 kb, both_make ha hb ha8 hb8 ka kb]
  refine ⟨rfl, ?_⟩
  simp only [Bool.true_eq_false, or_self, if_false]
  split
  · exact .inr rfl
  · exact .inl rfl
end Sough
namespace Go.Proofs.Ytlfgempjjoclbaa
open Go.RowKit Go.Maps Go.ChangeMaps
theorem own_wide {w : World} {b b' e z n : Nat} {v : Value} {xs : List Value} (h : w.ownsRow b e z v n xs) (hb : b' ≤ b) : w.ownsRow b' e z v n xs := by
  refine ⟨h.1, ?_⟩
  rcases h.2 with e | ⟨g, cap, cur, h1, h2, h3⟩
  · exact .inl e
  · exact .inr ⟨g, cap, cur, h1, Nat.le_trans hb h2, h3⟩
def intsV (l : List Nat) : List Value := l.map fun n : Nat => Value.int .i64 (n : Int)
/-- A row of versions that grows: in its first, empty block B; or behind base. -/
def MeetA (B base : Nat) (l : List Nat) (wz : World) (av iv : Value) (wr : World) : Prop := ∃ k : Nat, k ≤ l.length ∧ iv = .int .i64 k ∧
  ((k = 0 ∧ av = .slice (some ⟨B, 0, none⟩) 0 0) ∨ (0 < k ∧ wr.ownsRow base 3 1 av k (intsV (l.take k)))) ∧ Below base wz wr
theorem intsV_take {l : List Nat} {k : Nat} (h : k < l.length) : intsV (l.take (k + 1)) = intsV (l.take k) ++ [.int .i64 (l[k] : Nat)] := by
  unfold intsV
  rw [List.take_succ_eq_append_getElem h, List.map_append]; rfl
theorem MeetA.own {B base : Nat} {l : List Nat} {wz wr : World} {av : Value} {k : Nat} (hB : B < base) (hz : wz.heap[B]? = some (.cells #[] 3 (0, 0))) (hk : k = l.length)
    (h : (k = 0 ∧ av = .slice (some ⟨B, 0, none⟩) 0 0) ∨ (0 < k ∧ wr.ownsRow base 3 1 av k (intsV (l.take k)))) (hb : Below base wz wr) : wr.ownsRow 0 3 1 av l.length (intsV l) ∧ ∀ g, av.ownBlock = some g → g < wr.heap.size := by
  subst hk
  rcases h with ⟨h0, rfl⟩ | ⟨h0, h⟩
  · have hl : l = [] := List.length_eq_zero_iff.1 h0
    subst hl
    have hc := (hb.block B hB).trans hz
    refine ⟨⟨rfl, .inr ⟨B, 0, #[], rfl, Nat.zero_le _, hc, Nat.le_refl _, Nat.zero_le _, rfl, rfl⟩⟩, fun g hg => ?_⟩
    simp only [Value.ownBlock, Option.some.injEq] at hg
    subst hg
    exact lt_of_block hc
  · rw [List.take_length] at h
    refine ⟨own_wide h (Nat.zero_le _), fun g hg => ?_⟩
    rcases h.2 with ⟨rfl, _⟩ | ⟨g', cap, cur, rfl, _, hh, _⟩
    · simp [Value.ownBlock] at hg
    · simp only [Value.ownBlock, Option.some.injEq] at hg
      subst hg
      exact lt_of_block hh
theorem own_stay {w w' : World} {av : Value} {n : Nat} {xs : List Value} (h : w.ownsRow 0 3 1 av n xs) {B : Nat} (hlt : ∀ g, av.ownBlock = some g → g < B) (hb : Below B w w') : w'.ownsRow 0 3 1 av n xs := by
  refine ⟨h.1, ?_⟩
  rcases h.2 with e | ⟨g, cap, cur, rfl, h1, hh, h2⟩
  · exact .inl e
  · exact .inr ⟨g, cap, cur, rfl, h1, (hb.block g (hlt g rfl)).trans hh, h2⟩
theorem MeetA.first {B base : Nat} {l : List Nat} {wz wr w2 : World} {x : Nat} {v' : Value} (tmp : Obj) (hl : 0 < l.length) (hx : x = l[0]) (hb : Below base wz wr) (hbase : base ≤ wr.heap.size)
    (hown : w2.ownsRow (wr.heap.size + 1) 3 1 v' 1 [.int .i64 (x : Int)]) (hg : (wr.alloc tmp).grownBy w2 none) : MeetA B base l wz v' (.int .i64 1) w2 := by
  refine ⟨1, hl, rfl, .inr ⟨by omega, ?_⟩, hb.trans (((Below.refl base wr).alloc hbase tmp).grown hg (by simp; omega) (fun k hk => by cases hk))⟩
  have := intsV_take hl
  rw [this, ← hx]
  simp only [List.take_zero, intsV, List.map_nil, List.nil_append]
  exact own_wide hown (by omega)
theorem MeetA.next {B base : Nat} {l : List Nat} {wz wr w2 : World} {x k : Nat} {v v' : Value} (tmp : Obj) (hk : k < l.length) (hx : x = l[k]) (hb : Below base wz wr) (hbase : base ≤ wr.heap.size) (hv : wr.ownsRow base 3 1 v k (intsV (l.take k)))
    (hown : w2.ownsRow base 3 1 v' (k + 1) (intsV (l.take k) ++ [.int .i64 (x : Int)])) (hg : (wr.alloc tmp).grownBy w2 v.ownBlock) : MeetA B base l wz v' (.int .i64 ((k : Int) + 1)) w2 := by
  refine ⟨k + 1, hk, by push_cast; rfl, .inr ⟨by omega, ?_⟩, hb.trans (((Below.refl base wr).alloc hbase tmp).grown hg (by simp; omega) (fun j hj => ?_))⟩
  · rw [intsV_take hk, ← hx]; exact hown
  · rcases hv.2 with ⟨rfl, _⟩ | ⟨g, cap, cur, rfl, h1, _⟩
    · simp [Value.ownBlock] at hj
    · simp only [Value.ownBlock, Option.some.injEq] at hj
      omega
/-- What a slice of bytes that came in holds. -/
def BytesIn (W : World) (a : Option Addr) (len : Nat) (ns : Nat → Nat) : Prop := ∀ i, i < len → ∃ b off, a = some ⟨b, off, none⟩ ∧ b < W.heap.size ∧ W.cell? ⟨b, off + i, none⟩ = some (.int .u8 (ns i : Int)) ∧ ns i < 256

end Go.Proofs.Ytlfgempjjoclbaa
