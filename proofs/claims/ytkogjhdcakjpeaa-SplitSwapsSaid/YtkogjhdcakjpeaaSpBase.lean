/- The walks of Right and Encode (both packages). -/
import Derived.Test.YtkogjhdcakjpeaaVtAs
import Derived.Test.YtkogjhdcakjpeaaSpPlain
import Derived.Test.YtkogjhdcakjpeaaRegion
namespace Go.Proofs.Ytkogjhdcakjpeaa
open Go.RowKit

def fragV (f : Sough.Frag) : Value := .agg #[.int .u64 f.id, .int .i64 f.index, .int .i64 f.count, .string ⟨f.part.toArray⟩]
def fragC (f : Sough.Frag) : Array Value := #[.int .u64 f.id, .int .i64 f.index, .int .i64 f.count, .string ⟨f.part.toArray⟩]

set_option maxRecDepth 100000 in
set_option maxHeartbeats 1600000 in
theorem right_walk (id : Nat) (index count : Int) (part : ByteArray) (w : World) :
    Calls Try.prog 20 #[.agg #[.int .u64 id, .int .i64 index, .int .i64 count, .string part]] w fun e w' => e = .returned (.bool (Sough.Frag.right ⟨id, index, count, part.data.toList⟩)) ∧ Below w.heap.size w w' := by
  go_enter Try.func20, Try.ntmps20
  go_wp2
  all_goals
    go_ret
    exact ⟨ret_bool (by rw [Bool.eq_iff_iff, Sough.right_iff]; simp [Sough.Frag.ok]; omega), (Below.refl _ _).alloc (Nat.le_refl _) _⟩

set_option maxRecDepth 100000 in
set_option maxHeartbeats 1600000 in
theorem rright_walk (id : Nat) (index count : Int) (part : ByteArray) (w : World) :
    Calls Try.prog 21 #[.agg #[.int .u64 id, .int .i64 index, .int .i64 count, .string part]] w fun e w' => e = .returned (.bool (Sough.Frag.right ⟨id, index, count, part.data.toList⟩)) ∧ Below w.heap.size w w' := by
  go_enter Try.func21, Try.ntmps21
  go_wp2
  all_goals
    go_ret
    exact ⟨ret_bool (by rw [Bool.eq_iff_iff, Sough.right_iff]; simp [Sough.Frag.ok]; omega), (Below.refl _ _).alloc (Nat.le_refl _) _⟩


set_option maxRecDepth 100000 in
set_option maxHeartbeats 1600000 in
theorem encode_walk (id : Nat) (index count : Int) (part : ByteArray) (w : World) :
    Calls Try.prog 19 #[.agg #[.int .u64 id, .int .i64 index, .int .i64 count, .string part]] w fun e w' => e = .returned (.string ⟨(Sough.Frag.encode ⟨id, index, count, part.data.toList⟩).toArray⟩) ∧ Below w.heap.size w w' := by
  have hw0 : Below w.heap.size w (w.alloc (.cells #[.int .u64 id, .int .i64 index, .int .i64 count, .string part] 26)) := (Below.refl _ _).alloc (Nat.le_refl _) _
  have HW0 := Lib.hid hw0; clear hw0
  by_cases hok : Sough.Frag.ok ⟨id, index, count, part.data.toList⟩
  · have hr : Sough.Frag.right ⟨id, index, count, part.data.toList⟩ = true := by simpa [Sough.Frag.right] using hok
    have HK := Lib.hid hok
    obtain ⟨k1, k2, k3, k4, k5, k6, k7, k8⟩ := hok
    simp only at k1 k2 k3 k4 k5 k6 k7 k8
    have k9 : part.size ≤ 1000 := by simpa using k8
    have la := (Sough.put_len id).2
    have lb := (Sough.put_len index.toNat).2
    have lc := (Sough.put_len count.toNat).2
    have u1 : IntKind.u64.wrap index = index := by rw [IntKind.wrap_u64]; omega
    have u2 : IntKind.u64.wrap count = count := by rw [IntKind.wrap_u64]; omega
    go_enter Try.func19, Try.ntmps19
    go_wp2_with fail
    refine (right_walk _ _ _ _ _).mono ?_; rintro e w1 ⟨rfl, hb1⟩
    rw [hr]
    have c0 := hb1.cell (p := ⟨w.heap.size, 0, none⟩) (by simp)
    have c1 := hb1.cell (p := ⟨w.heap.size, 1, none⟩) (by simp)
    have c2 := hb1.cell (p := ⟨w.heap.size, 2, none⟩) (by simp)
    have c3 := hb1.cell (p := ⟨w.heap.size, 3, none⟩) (by simp)
    simp only [World.cell?_alloc_mark] at c0 c1 c2 c3
    simp at c0 c1 c2 c3
    have x0 : ∀ x : Later w1, x.world.cell? ⟨w.heap.size, 0, none⟩ = some (.int .u64 id) := fun x => x.cell c0
    have x1 : ∀ x : Later w1, x.world.cell? ⟨w.heap.size, 1, none⟩ = some (.int .i64 index) := fun x => x.cell c1
    have x2 : ∀ x : Later w1, x.world.cell? ⟨w.heap.size, 2, none⟩ = some (.int .i64 count) := fun x => x.cell c2
    have x3 : ∀ x : Later w1, x.world.cell? ⟨w.heap.size, 3, none⟩ = some (.string part) := fun x => x.cell c3
    go_wp2_with fail
    refine wp_region_later (by kernel_rfl) (by kernel_rfl) ?_
    repeat (go_big_quiet_step ((go_at_call 27; exact Calls.later (put_any _ (by omega) (by omega) _))))
    refine wpQuiet_nil ?_
    rintro ⟨w2, hb2⟩
    go_wp2_with fail
    go_ret
    refine ⟨ret_str ?_, HW0.out.trans ((ext_trans hb1 hb2).mono HW0.out.size)⟩
    rw [bytes_append, bytes_append, append_eq]
    simp [Sough.Frag.encode, Sough.Frag.bytes, HK.out]
  · have hr : Sough.Frag.right ⟨id, index, count, part.data.toList⟩ = false := by simpa [Sough.Frag.right] using hok
    have he : Sough.Frag.encode ⟨id, index, count, part.data.toList⟩ = [] := by simp [Sough.Frag.encode, hok]
    have HE := Lib.hid he
    clear hok he
    go_enter Try.func19, Try.ntmps19
    go_wp2_with fail
    refine (right_walk _ _ _ _ _).mono ?_; rintro e w1 ⟨rfl, hb1⟩
    rw [hr]
    go_wp2
    go_ret
    rw [HE.out]
    exact ⟨rfl, HW0.out.trans (hb1.mono HW0.out.size)⟩

set_option maxRecDepth 100000 in
set_option maxHeartbeats 1600000 in
theorem rencode_walk (id : Nat) (index count : Int) (part : ByteArray) (w : World) :
    Calls Try.prog 23 #[.agg #[.int .u64 id, .int .i64 index, .int .i64 count, .string part]] w fun e w' => e = .returned (.string ⟨(Sough.Frag.encode ⟨id, index, count, part.data.toList⟩).toArray⟩) ∧ Below w.heap.size w w' := by
  have hw0 : Below w.heap.size w (w.alloc (.cells #[.int .u64 id, .int .i64 index, .int .i64 count, .string part] 43)) := (Below.refl _ _).alloc (Nat.le_refl _) _
  have HW0 := Lib.hid hw0; clear hw0
  by_cases hok : Sough.Frag.ok ⟨id, index, count, part.data.toList⟩
  · have hr : Sough.Frag.right ⟨id, index, count, part.data.toList⟩ = true := by simpa [Sough.Frag.right] using hok
    have HK := Lib.hid hok
    obtain ⟨k1, k2, k3, k4, k5, k6, k7, k8⟩ := hok
    simp only at k1 k2 k3 k4 k5 k6 k7 k8
    have k9 : part.size ≤ 1000 := by simpa using k8
    have la := (Sough.put_len id).2
    have lb := (Sough.put_len index.toNat).2
    have lc := (Sough.put_len count.toNat).2
    have u1 : IntKind.u64.wrap index = index := by rw [IntKind.wrap_u64]; omega
    have u2 : IntKind.u64.wrap count = count := by rw [IntKind.wrap_u64]; omega
    go_enter Try.func23, Try.ntmps23
    go_wp2_with fail
    refine (rright_walk _ _ _ _ _).mono ?_; rintro e w1 ⟨rfl, hb1⟩
    rw [hr]
    have c0 := hb1.cell (p := ⟨w.heap.size, 0, none⟩) (by simp)
    have c1 := hb1.cell (p := ⟨w.heap.size, 1, none⟩) (by simp)
    have c2 := hb1.cell (p := ⟨w.heap.size, 2, none⟩) (by simp)
    have c3 := hb1.cell (p := ⟨w.heap.size, 3, none⟩) (by simp)
    simp only [World.cell?_alloc_mark] at c0 c1 c2 c3
    simp at c0 c1 c2 c3
    have x0 : ∀ x : Later w1, x.world.cell? ⟨w.heap.size, 0, none⟩ = some (.int .u64 id) := fun x => x.cell c0
    have x1 : ∀ x : Later w1, x.world.cell? ⟨w.heap.size, 1, none⟩ = some (.int .i64 index) := fun x => x.cell c1
    have x2 : ∀ x : Later w1, x.world.cell? ⟨w.heap.size, 2, none⟩ = some (.int .i64 count) := fun x => x.cell c2
    have x3 : ∀ x : Later w1, x.world.cell? ⟨w.heap.size, 3, none⟩ = some (.string part) := fun x => x.cell c3
    go_wp2_with fail
    refine wp_region_later (by kernel_rfl) (by kernel_rfl) ?_
    repeat (go_big_quiet_step ((go_at_call 28; exact Calls.later (rput_any _ (by omega) (by omega) _))))
    refine wpQuiet_nil ?_
    rintro ⟨w2, hb2⟩
    go_wp2_with fail
    go_ret
    refine ⟨ret_str ?_, HW0.out.trans ((ext_trans hb1 hb2).mono HW0.out.size)⟩
    rw [bytes_append, bytes_append, append_eq]
    simp [Sough.Frag.encode, Sough.Frag.bytes, HK.out]
  · have hr : Sough.Frag.right ⟨id, index, count, part.data.toList⟩ = false := by simpa [Sough.Frag.right] using hok
    have he : Sough.Frag.encode ⟨id, index, count, part.data.toList⟩ = [] := by simp [Sough.Frag.encode, hok]
    have HE := Lib.hid he
    clear hok he
    go_enter Try.func23, Try.ntmps23
    go_wp2_with fail
    refine (rright_walk _ _ _ _ _).mono ?_; rintro e w1 ⟨rfl, hb1⟩
    rw [hr]
    go_wp2
    go_ret
    rw [HE.out]
    exact ⟨rfl, HW0.out.trans (hb1.mono HW0.out.size)⟩

end Go.Proofs.Ytkogjhdcakjpeaa
