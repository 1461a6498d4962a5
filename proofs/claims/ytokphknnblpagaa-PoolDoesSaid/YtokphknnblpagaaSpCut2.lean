/- The walk of split.Cut. -/
import Derived.Test.YtokphknnblpagaaSpCut
import Derived.Lib.ConvBytes
import Derived.Lib.SmallJoins
namespace Go.Proofs.Ytokphknnblpagaa
open Go.RowKit Go.Shelf
attribute [local go_sem] Oper.semAt_some

set_option maxRecDepth 100000 in
set_option maxHeartbeats 800000 in
theorem pieces_walk (a : Option Addr) (len cap : Nat) (size : Int) (w : World) :
    Calls Try.prog 27 #[.slice a len cap, .int .i64 size] w fun e w' =>
      e = .returned (.func (.func 28) #[] #[.pointer (some ⟨w.heap.size, 0, none⟩), .pointer (some ⟨w.heap.size + 1, 0, none⟩)]) ∧
      (w.alloc (.cells #[.slice a len cap] 50)).alloc (.cells #[.int .i64 size] 3) = w' := by
  go_enter Try.func27, Try.ntmps27
  go_wp2
  go_ret
  exact ⟨rfl, rfl⟩

theorem pcs_int {L size : Nat} (hs : 1 ≤ size) (hL : 1 ≤ L) : ((L : Int) + (size : Int) - 1) / (size : Int) = (pcs L size : Int) := by
  unfold pcs
  rw [show (L : Int) + (size : Int) - 1 = ((L + size - 1 : Nat) : Int) from by omega, Int.natCast_ediv]

/-- The world ahead of the loop, but for the iterator's two boxes. -/
structure CutW (s : ByteArray) (id cnt : Nat) (w W : World) : Prop where
  size : W.heap.size = w.heap.size + 4
  bid : W.heap[w.heap.size]? = some (.cells #[.int .u64 id] 32 (0, 0))
  bcnt : W.heap[w.heap.size + 1]? = some (.cells #[.int .i64 cnt] 3 (0, 0))
  bl : W.heap[w.heap.size + 2]? = some (.cells #[.slice none 0 0] 23 (0, 0))
  bytes : ∀ j (h : j < s.size), W.cell? ⟨w.heap.size + 3, j, none⟩ = some (.int .u8 (s[j].toNat))
  below : Below w.heap.size w W

theorem cutW (s : ByteArray) (id cnt : Nat) (w : World) : CutW s id cnt w (Lib.bytesWorld (((w.alloc (.cells #[.int .u64 id] 32)).alloc (.cells #[.int .i64 cnt] 3)).alloc (.cells #[.slice none 0 0] 23)) 5 s) := by
  obtain ⟨A, hA⟩ : ∃ A, A = w.alloc (.cells #[.int .u64 id] 32) := ⟨_, rfl⟩
  obtain ⟨C, hC⟩ : ∃ C, C = A.alloc (.cells #[.int .i64 cnt] 3) := ⟨_, rfl⟩
  obtain ⟨D, hD⟩ : ∃ D, D = C.alloc (.cells #[.slice none 0 0] 23) := ⟨_, rfl⟩
  have sA : A.heap.size = w.heap.size + 1 := by rw [hA]; simp
  have sC : C.heap.size = w.heap.size + 2 := by rw [hC]; simp [sA]
  have sD : D.heap.size = w.heap.size + 3 := by rw [hD]; simp [sC]
  have a0 : A.heap[w.heap.size]? = some (.cells #[.int .u64 id] 32 (0, 0)) := by rw [hA]; exact heap_alloc_new _ _
  have c1 : C.heap[w.heap.size + 1]? = some (.cells #[.int .i64 cnt] 3 (0, 0)) := by have := heap_alloc_new A (.cells #[.int .i64 cnt] 3); rw [sA] at this; rw [hC]; exact this
  have c0 : C.heap[w.heap.size]? = some (.cells #[.int .u64 id] 32 (0, 0)) := by rw [hC, Below.heap_alloc _ _ _ (by omega)]; exact a0
  have d2 : D.heap[w.heap.size + 2]? = some (.cells #[.slice none 0 0] 23 (0, 0)) := by have := heap_alloc_new C (.cells #[.slice none 0 0] 23); rw [sC] at this; rw [hD]; exact this
  have d1 : D.heap[w.heap.size + 1]? = some (.cells #[.int .i64 cnt] 3 (0, 0)) := by rw [hD, Below.heap_alloc _ _ _ (by omega)]; exact c1
  have d0 : D.heap[w.heap.size]? = some (.cells #[.int .u64 id] 32 (0, 0)) := by rw [hD, Below.heap_alloc _ _ _ (by omega)]; exact c0
  have bD : Below w.heap.size w D := by rw [hD, hC, hA]; exact (((Below.refl _ _).alloc (Nat.le_refl _) _).alloc (by simp) _).alloc (by simp; omega) _
  rw [← hA, ← hC, ← hD]
  refine ⟨by rw [Lib.bytesWorld_size, sD], ?_, ?_, ?_, fun j hj => ?_, bD.trans (Joins.below_bytesWorld _ _ _ _ (by omega))⟩
  · rw [Lib.bytesWorld_at_old _ _ _ _ (by omega)]; exact d0
  · rw [Lib.bytesWorld_at_old _ _ _ _ (by omega)]; exact d1
  · rw [Lib.bytesWorld_at_old _ _ _ _ (by omega)]; exact d2
  · have := Lib.bytesWorld_cell D 5 s j hj
    rw [sD] at this
    rw [this, List.getD_eq_getElem?_getD, List.getElem?_eq_getElem (by simpa using hj), Option.getD_some, Array.getElem_toList]
    rfl

/-- Piece k of a text. -/
def piece (s : ByteArray) (size k : Nat) : ByteArray := ⟨((s.data.toList.drop (k * size)).take size).toArray⟩
/-- The cells of the first k parts. -/
def fragRow (s : ByteArray) (id cnt size k : Nat) : List Value := (List.range k).flatMap fun i : Nat => [.int .u64 id, .int .i64 (i : Int), .int .i64 cnt, .string (piece s size i)]
theorem fragRow_succ (s : ByteArray) (id cnt size k : Nat) : fragRow s id cnt size (k + 1) = fragRow s id cnt size k ++ [.int .u64 id, .int .i64 k, .int .i64 cnt, .string (piece s size k)] := by
  simp [fragRow, List.range_succ, List.flatMap_append]

/-- What the loop's memory holds behind k rounds. -/
structure CutI (s : ByteArray) (id cnt size : Nat) (w : World) (k : Nat) (W : World) : Prop where
  big : w.heap.size + 6 ≤ W.heap.size
  bid : W.heap[w.heap.size]? = some (.cells #[.int .u64 id] 32 (0, 0))
  bcnt : W.heap[w.heap.size + 1]? = some (.cells #[.int .i64 cnt] 3 (0, 0))
  bl : ∃ v, W.heap[w.heap.size + 2]? = some (.cells #[v] 23 (0, 0)) ∧ W.ownsRow (w.heap.size + 6) 35 4 v k (fragRow s id cnt size k)
  bytes : ∀ j (h : j < s.size), W.cell? ⟨w.heap.size + 3, j, none⟩ = some (.int .u8 (s[j].toNat))
  below : Below w.heap.size w W

theorem ownBlock_cells {w : World} {base e size n k : Nat} {v : Value} {xs : List Value} (h : w.ownsRow base e size v n xs) (hk : v.ownBlock = some k) : base ≤ k ∧ ∃ cur, w.heap[k]? = some (.cells cur e (0, 0)) := by
  rcases h.2 with ⟨rfl, _⟩ | ⟨g, cap, cur, rfl, hg, hh, _⟩
  · simp [Value.ownBlock] at hk
  · simp only [Value.ownBlock, Option.some.injEq] at hk
    subst hk
    exact ⟨hg, cur, hh⟩

theorem CutI.kept {s : ByteArray} {id cnt size k : Nat} {w A A' : World} {row : Option Nat} (h : CutI s id cnt size w k A) (hg : A.grownBy A' row)
    (hr : ∀ r, row = some r → w.heap.size + 6 ≤ r ∧ ∃ o, A.heap[r]? = some o ∧ o.isCells = false) : CutI s id cnt size w k A' := by
  have hne : ∀ i, i < w.heap.size + 6 → some i ≠ row := fun i hi e => by have := (hr i e.symm).1; omega
  have hk : ∀ i, i < w.heap.size + 6 → A'.heap[i]? = A.heap[i]? := fun i hi => hg.block i (by have := h.big; omega) (hne i hi)
  obtain ⟨v, hv, hown⟩ := h.bl
  refine ⟨Nat.le_trans h.big hg.size, (hk _ (by omega)).trans h.bid, (hk _ (by omega)).trans h.bcnt, ⟨v, (hk _ (by omega)).trans hv, hown.kept hg ?_⟩, fun j hj => ?_, h.below.grown hg (by have := h.big; omega) (fun r e => by have := (hr r e).1; omega)⟩
  · cases hob : v.ownBlock with
    | none => exact .inl rfl
    | some b =>
      refine .inr fun e => ?_
      obtain ⟨_, cur, hh⟩ := ownBlock_cells hown hob
      obtain ⟨_, o, ho, hc⟩ := hr b e.symm
      rw [hh] at ho
      cases ho
      simp [Obj.isCells] at hc
  · exact (World.cell?_of_block (hk (w.heap.size + 3) (by omega))).trans (h.bytes j hj)

theorem CutI.steady (s : ByteArray) (id cnt size : Nat) (w : World) : Steady (w.heap.size + 4) (CutI s id cnt size w) := by
  refine ⟨fun k A v h => ?_, fun k A A' h hg => h.kept hg (fun r e => by cases e)⟩
  obtain ⟨u, hu, hown⟩ := h.bl
  have hk : ∀ i, i ≠ w.heap.size + 4 → (A.setCell ⟨w.heap.size + 4, 0, none⟩ v).heap[i]? = A.heap[i]? := fun i hi => Below.heap_setCell _ _ _ _ hi
  exact ⟨by have := h.big; simpa [World.setCell] using this, (hk _ (by omega)).trans h.bid, (hk _ (by omega)).trans h.bcnt, ⟨u, (hk _ (by omega)).trans hu, ownsRow_setCell_below hown (by show w.heap.size + 4 < w.heap.size + 6; omega) v⟩,
    fun j hj => (World.cell?_of_block (hk (w.heap.size + 3) (by omega))).trans (h.bytes j hj), h.below.setCell (by show w.heap.size ≤ w.heap.size + 4; omega) _⟩

/-- One part more. -/
theorem CutI.push {s : ByteArray} {id cnt size k : Nat} {w X w1 : World} {v v' : Value} {tmp : Obj} (h : CutI s id cnt size w k X) (hv : X.heap[w.heap.size + 2]? = some (.cells #[v] 23 (0, 0)))
    (hown : X.ownsRow (w.heap.size + 6) 35 4 v k (fragRow s id cnt size k))
    (hown' : w1.ownsRow (w.heap.size + 6) 35 4 v' (k + 1) (fragRow s id cnt size k ++ [.int .u64 id, .int .i64 k, .int .i64 cnt, .string (piece s size k)])) (hg : (X.alloc tmp).grownBy w1 v.ownBlock) :
    (∃ g' cap', v' = .slice (some ⟨g', 0, none⟩) (k + 1) cap') ∧ w1.cell? ⟨w.heap.size + 2, 0, none⟩ = some v ∧ w1.frozen? ⟨w.heap.size + 2, 0, none⟩ = false ∧
    (KeepsFrom (w.heap.size + 6) X (w1.setCell ⟨w.heap.size + 2, 0, none⟩ v') ∧ Mid (w.heap.size + 3) (w.heap.size + 6) X (w1.setCell ⟨w.heap.size + 2, 0, none⟩ v') ∧ CutI s id cnt size w (k + 1) (w1.setCell ⟨w.heap.size + 2, 0, none⟩ v')) := by
  have hbig := h.big
  have hex : ∃ g' cap', v' = .slice (some ⟨g', 0, none⟩) (k + 1) cap' := by
    rcases hown'.2 with ⟨_, h0⟩ | ⟨g', cap', _, h, _⟩
    · omega
    · exact ⟨g', cap', h⟩
  have hne : ∀ i, i < w.heap.size + 6 → some i ≠ v.ownBlock := fun i hi e => by have := (ownBlock_cells hown e.symm).1; omega
  have hk : ∀ i, i < w.heap.size + 6 → w1.heap[i]? = X.heap[i]? := fun i hi =>
    (hg.block i (by simp; omega) (hne i hi)).trans (Below.heap_alloc _ _ _ (by omega))
  have hk2 : ∀ i, i < w.heap.size + 6 → i ≠ w.heap.size + 2 → (w1.setCell ⟨w.heap.size + 2, 0, none⟩ v').heap[i]? = X.heap[i]? := fun i hi h2 => (Below.heap_setCell _ _ _ _ h2).trans (hk i hi)
  have hv1 := (hk (w.heap.size + 2) (by omega)).trans hv
  have hsz : X.heap.size ≤ w1.heap.size := by have := hg.size; simp at this; omega
  refine ⟨hex, cell_of_one hv1, free_of_one hv1, ⟨by simpa [World.setCell] using hsz, fun i o hi ho hc => ?_⟩, fun i h1 h2 => hk2 i h2 (by omega), ⟨by simp [World.setCell]; omega, (hk2 _ (by omega) (by omega)).trans h.bid, (hk2 _ (by omega) (by omega)).trans h.bcnt, ⟨v', one_setCell hv1, ?_⟩, fun j hj => ?_, ?_⟩⟩
  · refine (Below.heap_setCell _ _ _ _ (by show i ≠ w.heap.size + 2; omega)).trans ((hg.block i (by have := (Array.getElem?_eq_some_iff.1 ho).1; simp; omega) (fun e => ?_)).trans ((Below.heap_alloc _ _ _ (Array.getElem?_eq_some_iff.1 ho).1).trans ho))
    obtain ⟨_, cur, hh⟩ := ownBlock_cells hown e.symm
    rw [hh] at ho
    cases ho
    simp [Obj.isCells] at hc
  · rw [fragRow_succ]
    exact ownsRow_setCell_below hown' (by show w.heap.size + 2 < w.heap.size + 6; omega) v'
  · exact (World.cell?_of_block (hk2 (w.heap.size + 3) (by omega) (by omega))).trans (h.bytes j hj)
  · exact ((h.below.alloc (by omega) tmp).grown hg (by simp; omega) (fun r e => by
      have := (ownBlock_cells hown e).1; omega)).setCell (by show w.heap.size ≤ w.heap.size + 2; omega) _

def fragZero : Value := .agg #[.int .u64 0, .int .i64 0, .int .i64 0, .string ⟨#[]⟩]
theorem infoFrag : (Try.prog.info? 35).map (fun i => (i.zero, i.size, i.bytes)) = some (some fragZero, 4, 40) := by kernel_rfl

/-- What split.Cut leaves where it cuts. -/
def CutPost (s : ByteArray) (id size : Nat) (w : World) (e : Ending) (w' : World) : Prop :=
  ∃ v, e = .returned (.tuple #[v, .int .i64 0]) ∧ w'.ownsRow w.heap.size 35 4 v (pcs s.size size) (fragRow s id (pcs s.size size) size (pcs s.size size)) ∧ Below w.heap.size w w'

theorem _root_.Go.World.ownsRow.wider {w : World} {base base' e size n : Nat} {v : Value} {xs : List Value} (h : w.ownsRow base e size v n xs) (hb : base' ≤ base) : w.ownsRow base' e size v n xs := by
  obtain ⟨h1, h2⟩ := h
  refine ⟨h1, ?_⟩
  rcases h2 with h2 | ⟨g, cap, cur, hv, hg, r⟩
  · exact .inl h2
  · exact .inr ⟨g, cap, cur, hv, by omega, r⟩

theorem piece_conv {s : ByteArray} {id cnt size k : Nat} {w X : World} (h : CutI s id cnt size w k X) (_hs : 1 ≤ size) (hk : k * size < s.size) :
    (convert 50 9 (.slice (some ⟨w.heap.size + 3, k * size, none⟩) (plen s.size size k) (plen s.size size k))).run Try.prog X = .ok (.string (piece s size k)) X := by
  have hl : ((s.data.toList.drop (k * size)).take size).length = plen s.size size k := by simp [plen]
  have := run_convert_bytes_back (P := Try.prog) X 50 9 5 ⟨w.heap.size + 3, k * size, none⟩ (plen s.size size k) ((s.data.toList.drop (k * size)).take size) Try.underlying50 Try.underlying5 Try.underlying9 (fun j hj => by
    rw [hl] at hj
    unfold plen at hj
    rw [Go.WideShapes.add_plain, h.bytes (k * size + j) (by omega)]
    simp
    rfl)
  rw [hl] at this
  exact this

theorem CutI.start {s : ByteArray} {id cnt : Nat} {w W : World} (h : CutW s id cnt w W) (o1 o2 : Obj) (size : Nat) : CutI s id cnt size w 0 ((W.alloc o1).alloc o2) := by
  have hs := h.size
  have hk : ∀ i, i < W.heap.size → ((W.alloc o1).alloc o2).heap[i]? = W.heap[i]? := fun i hi => (Below.heap_alloc _ _ _ (by simp; omega)).trans (Below.heap_alloc _ _ _ hi)
  exact ⟨by simp; omega, (hk _ (by omega)).trans h.bid, (hk _ (by omega)).trans h.bcnt, ⟨_, (hk _ (by omega)).trans h.bl, by simpa [fragRow] using World.ownsRow_nil _ _ _ _⟩,
    fun j hj => (World.cell?_of_block (hk (w.heap.size + 3) (by omega))).trans (h.bytes j hj), (h.below.alloc (by omega) _).alloc (by simp; omega) _⟩

set_option maxRecDepth 100000 in
set_option maxHeartbeats 1600000 in
theorem cut_good (s : ByteArray) (id size : Nat) (w : World) (h1 : 1 ≤ id) (h2 : id ≤ 4294967296) (h3 : 1 ≤ size) (h4 : size ≤ 1000) (h5 : 1 ≤ s.size) (h6 : s.size ≤ 4096) (h7 : pcs s.size size ≤ 16) :
    CallsIn Fence.wide 9 Try.prog 20 #[.string s, .int .u64 id, .int .i64 size] w (CutPost s id size w) := by
  have hcv := fun (w : World) (t : ByteArray) => Lib.run_convert_string_bytes (P := Try.prog) w 9 50 5 t Try.underlying9 Try.underlying50 Try.underlying5
  have hdiv := pcs_int h3 h5
  have HC := Lib.hid (cutW s id (pcs s.size size) w)
  obtain ⟨c, hc⟩ : ∃ c, c = grownCap (((w.alloc (.cells #[.int .u64 id] 32)).alloc (.cells #[.int .i64 (pcs s.size size)] 3)).alloc (.cells #[.slice none 0 0] 23)) s.size 0 5 := ⟨_, rfl⟩
  have hcl : s.size ≤ c := by rw [hc]; exact grownCap_ge _ _ _ _
  have hcm : c ≤ maxLen := by rw [hc]; exact grownCap_le_maxLen _ _ _ _ (by unfold maxLen; omega)
  have HCC := Lib.hid hc
  clear hc
  refine callsIn_of_wp_marks Try.func20 rfl trivial ?_ rfl
  simp only [Try.ntmps20, List.size_toArray, List.length_cons, List.length_nil, Nat.reduceAdd, Nat.reduceSub, Array.replicate_succ, Array.replicate_zero, List.push_toArray, List.append_toArray, List.nil_append, List.cons_append]
  gi_wp2_with fail
  rw [← HCC.out]
  have HC' := HC.out
  generalize Lib.bytesWorld (((w.alloc (.cells #[.int .u64 id] 32)).alloc (.cells #[.int .i64 (pcs s.size size)] 3)).alloc (.cells #[.slice none 0 0] 23)) 5 s = W4 at HC' ⊢
  clear HC HCC hdiv hcv
  have HW := Lib.hid HC'; have hsz := HC'.size; clear HC'
  refine ⟨trivial, ?_⟩
  refine (callsIn_wide.2 (pieces_walk _ _ _ _ _)).mono ?_
  rintro e w' ⟨rfl, rfl⟩
  gi_wp2_with fail
  have hB4 := heap_alloc_new W4 (.cells #[.slice (some ⟨w.heap.size + 1 + 1 + 1, 0, none⟩) s.size c] 50)
  have hB5 := heap_alloc_new (W4.alloc (.cells #[.slice (some ⟨w.heap.size + 1 + 1 + 1, 0, none⟩) s.size c] 50)) (.cells #[.int .i64 size] 3)
  rw [World.size_alloc] at hB5
  have hB4' := (Below.heap_alloc (W4.alloc (.cells #[.slice (some ⟨w.heap.size + 1 + 1 + 1, 0, none⟩) s.size c] 50)) (.cells #[.int .i64 size] 3) W4.heap.size (by simp)).trans hB4
  have HI0 := Lib.hid (CutI.start HW.out (.cells #[.slice (some ⟨w.heap.size + 1 + 1 + 1, 0, none⟩) s.size c] 50) (.cells #[.int .i64 size] 3) size)
  have hs5 : ((W4.alloc (.cells #[.slice (some ⟨w.heap.size + 1 + 1 + 1, 0, none⟩) s.size c] 50)).alloc (.cells #[.int .i64 size] 3)).heap.size = w.heap.size + 6 := by simp [hsz]
  generalize (W4.alloc (.cells #[.slice (some ⟨w.heap.size + 1 + 1 + 1, 0, none⟩) s.size c] 50)).alloc (.cells #[.int .i64 size] 3) = W5 at *
  rw [hsz] at hB5 hB4'
  have hp1 := pcs_le (L := s.size) h3
  refine wpIn_rangeFunc_count rfl (by omega) (gf := 28) (lb := #[.pointer (some ⟨w.heap.size + 4, 0, none⟩), .pointer (some ⟨w.heap.size + 4 + 1, 0, none⟩)]) rfl trivial (enters_of Try.func28 (by kernel_rfl) rfl)
    (pieces1_in Fence.wide 8 trivial rfl (by omega) (w.heap.size + 3) (w.heap.size + 6) (w.heap.size + 3) (w.heap.size + 4) (w.heap.size + 4 + 1) s.size c size h3 h4 h6 hcm (by omega) (by omega) (by omega) (by omega) (by omega) W5 ⟨⟨w.heap.size + 3, 0, none⟩, c, by simpa using hB4', by omega, Nat.le_refl _, fun _ => by simp⟩ hB5)
    (by omega) (Mid.refl _ _ _) Mid.trans (fun W o h => fun i h1 h2 => Below.heap_alloc _ _ _ (by omega)) (fun W l o h => fun i h1 h2 => World.putObj_heap_other (by omega)) (fun _ => rfl)
    (CutI s id (pcs s.size size) size w) (CutI.steady _ _ _ _ _) (fun k A l o' h hl ho => h.kept (grownBy_putObj' A l o') (fun r e => by cases e; exact ⟨by omega, ho⟩)) HI0.out ?round ?done
  case round =>
    intro l k W X hi hk hX
    have hconv := piece_conv hi h3 (pcs_lt h3 hk)
    have hbig := hi.big
    obtain ⟨v, hv, hown⟩ := hi.bl
    have c0 := cell_of_one hi.bid
    have c1 := cell_of_one hi.bcnt
    have c2 := cell_of_one hv
    have HI := Lib.hid hi; have HV := Lib.hid hv; have HK := Lib.hid hk
    clear hi hv hk hB4 hB5 hB4'
    obtain ⟨i0, hinf, hz0, hz1, hz2⟩ := info_parts infoFrag
    unfold encP
    gi_wp2
    refine ⟨trivial, ?_⟩
    gi_wp2_with (gi_at_builtin; refine wpListIn_append_own _ rfl _ _ 23 rfl (w.heap.size + 6) 35 i0 fragZero 4 40 Try.underlying23 hinf hz0 hz1 hz2 rfl (by decide) _ _ _ rfl (hown.alloc _) ⟨X.heap.size, 0, none⟩ 1 1 [.int .u64 id, .int .i64 k, .int .i64 (pcs s.size size), .string (piece s size k)] rfl rfl ?c1 ?c2 ?c3 ?c4 ?c5 ?_)
    case c1 =>
      intro j u hj
      rw [show (⟨X.heap.size, 0, none⟩ : Addr).add j = ⟨X.heap.size, 0 + j, none⟩ from Go.WideShapes.add_plain _ _ _, Nat.zero_add, World.cell?_alloc_mark]
      simpa using hj
    case c2 => intro u hu; simp at hu; rcases hu with rfl | rfl | rfl | rfl <;> rfl
    case c3 => have := HK.out; unfold maxLen; omega
    case c4 => have := HK.out; omega
    case c5 => simp; omega
    intro v' w1 hown' hgrow _
    obtain ⟨⟨g', cap', rfl⟩, cW, fW, hend⟩ := HI.out.push HV.out hown hown' hgrow
    have HE := Lib.hid hend
    clear hown' hgrow hown hend hconv c2
    gi_wp2
    exact HE.out
  case done =>
    intro D W hD hi hd
    have hbig := hi.big
    obtain ⟨v, hv, hown⟩ := hi.bl
    have c2 := cell_of_one hv
    have HI := Lib.hid hi; have HV := Lib.hid hv; have HO := Lib.hid hown; have HD := Lib.hid hd
    clear hi hv hown hd hB4 hB5 hB4'
    gi_wp2
    refine ⟨by simp, .inl ⟨_, _, rfl, run_takeDeferred HD.out, ?_⟩⟩
    exact ⟨_, results_tmp2 rfl _ _ _, v, rfl, (ownsRow_putObj HO.out _ HD.out rfl).wider (by omega), HI.out.below.trans (belowK_b (w := w) (Nat.le_refl _) W D _ _ (by omega) HD.out rfl rfl)⟩

end Go.Proofs.Ytokphknnblpagaa
