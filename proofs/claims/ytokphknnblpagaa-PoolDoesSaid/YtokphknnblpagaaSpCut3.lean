/- split.Cut at any arguments. -/
import Derived.Test.YtokphknnblpagaaSpCut2
import Derived.Test.YtokphknnblpagaaSpRight
namespace Sough

/-- How many parts. -/
def many (L size : Nat) : Nat := (L + size - 1) / size
def cutAll (s : List UInt8) (id size : Nat) : List Frag := (List.range (many s.length size)).map fun i : Nat => ⟨id, i, many s.length size, (s.drop (i * size)).take size⟩
/-- A message's parts, and what is wrong. -/
def cut (s : List UInt8) (id : Nat) (size : Int) : List Frag × Nat :=
  if id < 1 ∨ 4294967296 < id ∨ size < 1 ∨ 1000 < size ∨ s.length < 1 ∨ 4096 < s.length then ([], 1)
  else if 16 < many s.length size.toNat then ([], 4)
  else (cutAll s id size.toNat, 0)

end Sough
namespace Go.Proofs.Ytokphknnblpagaa
open Go.RowKit Go.Shelf

def fragCells (f : Sough.Frag) : List Value := [.int .u64 f.id, .int .i64 f.index, .int .i64 f.count, .string ⟨f.part.toArray⟩]
theorem fragRow_cut (s : ByteArray) (id size : Nat) : fragRow s id (pcs s.size size) size (pcs s.size size) = (Sough.cutAll s.data.toList id size).flatMap fragCells := by
  simp [fragRow, Sough.cutAll, Sough.many, pcs, List.flatMap_map, fragCells, piece]

set_option maxRecDepth 100000 in
set_option maxHeartbeats 1600000 in
theorem cut_arg (s : ByteArray) (id : Nat) (size : Int) (w : World) (h : id < 1 ∨ 4294967296 < id ∨ size < 1 ∨ 1000 < size ∨ s.size < 1 ∨ 4096 < s.size) :
    Calls Try.prog 20 #[.string s, .int .u64 id, .int .i64 size] w fun e w' => e = .returned (.tuple #[.slice none 0 0, .int .i64 1]) ∧ Below w.heap.size w w' := by
  by_cases a1 : id < 1
  · have d1 : decide ((id : Int) < 1) = true := by simp; omega
    clear h
    go_enter Try.func20, Try.ntmps20
    go_wp2
    go_ret2
    exact ⟨rfl, (Below.refl _ _).alloc (Nat.le_refl _) _⟩
  · have d1 : decide ((id : Int) < 1) = false := by simp; omega
    by_cases a2 : 4294967296 < id
    · have d2 : decide ((4294967296 : Int) < id) = true := by simp; omega
      clear h
      go_enter Try.func20, Try.ntmps20
      go_wp2
      go_ret2
      exact ⟨rfl, (Below.refl _ _).alloc (Nat.le_refl _) _⟩
    · have d2 : decide ((4294967296 : Int) < id) = false := by simp; omega
      by_cases a3 : size < 1
      · have d3 : decide (size < 1) = true := by simp; omega
        clear h
        go_enter Try.func20, Try.ntmps20
        go_wp2
        go_ret2
        exact ⟨rfl, (Below.refl _ _).alloc (Nat.le_refl _) _⟩
      · have d3 : decide (size < 1) = false := by simp; omega
        by_cases a4 : 1000 < size
        · have d4 : decide (1000 < size) = true := by simp; omega
          clear h
          go_enter Try.func20, Try.ntmps20
          go_wp2
          go_ret2
          exact ⟨rfl, (Below.refl _ _).alloc (Nat.le_refl _) _⟩
        · have d4 : decide (1000 < size) = false := by simp; omega
          by_cases a5 : s.size < 1
          · have d5 : decide ((s.size : Int) < 1) = true := by simp; omega
            clear h
            go_enter Try.func20, Try.ntmps20
            go_wp2
            go_ret2
            exact ⟨rfl, (Below.refl _ _).alloc (Nat.le_refl _) _⟩
          · have d5 : decide ((s.size : Int) < 1) = false := by simp; omega
            have d6 : decide ((4096 : Int) < s.size) = true := by simp; omega
            have h6 : 4096 < s.size := by omega
            clear h
            go_enter Try.func20, Try.ntmps20
            go_wp2
            go_ret2
            exact ⟨rfl, (Below.refl _ _).alloc (Nat.le_refl _) _⟩

set_option maxRecDepth 100000 in
set_option maxHeartbeats 1600000 in
theorem cut_many (s : ByteArray) (id size : Nat) (w : World) (h1 : 1 ≤ id) (h2 : id ≤ 4294967296) (h3 : 1 ≤ size) (h4 : size ≤ 1000) (h5 : 1 ≤ s.size) (h6 : s.size ≤ 4096) (h7 : 16 < pcs s.size size) :
    Calls Try.prog 20 #[.string s, .int .u64 id, .int .i64 size] w fun e w' => e = .returned (.tuple #[.slice none 0 0, .int .i64 4]) ∧ Below w.heap.size w w' := by
  have hdiv := pcs_int h3 h5
  go_enter Try.func20, Try.ntmps20
  go_wp2
  go_ret2
  exact ⟨rfl, ((Below.refl _ _).alloc (Nat.le_refl _) _).alloc (by simp) _⟩

/-- What split.Cut gives back. -/
def CutsTo (fs : List Sough.Frag) (er : Nat) (w : World) (e : Ending) (w' : World) : Prop :=
  ∃ v, e = .returned (.tuple #[v, .int .i64 er]) ∧ w'.ownsRow w.heap.size 35 4 v fs.length (fs.flatMap fragCells) ∧ Below w.heap.size w w'

theorem cut_as {s : ByteArray} {id : Nat} {size : Int} {fs : List Sough.Frag} {er : Nat} (hc : Sough.cut s.data.toList id size = (fs, er)) (w : World) :
    Calls Try.prog 20 #[.string s, .int .u64 id, .int .i64 size] w (CutsTo fs er w) := by
  unfold Sough.cut at hc
  have hl : s.data.toList.length = s.size := by simp
  rw [hl] at hc
  split at hc
  · rename_i h
    obtain ⟨rfl, rfl⟩ := Prod.mk.inj hc
    exact (cut_arg s id size w h).mono fun e w' ⟨he, hb⟩ => ⟨_, he, World.ownsRow_nil _ _ _ _, hb⟩
  · rename_i h
    obtain ⟨n, rfl⟩ := Int.eq_ofNat_of_zero_le (show 0 ≤ size by omega)
    have hp : pcs s.size n = Sough.many s.size n := rfl
    split at hc
    · rename_i h'
      obtain ⟨rfl, rfl⟩ := Prod.mk.inj hc
      exact (cut_many s id n w (by omega) (by omega) (by omega) (by omega) (by omega) (by omega) (by simpa [hp] using h')).mono fun e w' ⟨he, hb⟩ => ⟨_, he, World.ownsRow_nil _ _ _ _, hb⟩
    · rename_i h'
      obtain ⟨rfl, rfl⟩ := Prod.mk.inj hc
      refine (callsIn_wide.1 (cut_good s id n w (by omega) (by omega) (by omega) (by omega) (by omega) (by omega) (by rw [hp]; simpa using h'))).mono ?_
      rintro e w' ⟨v, he, hown, hb⟩
      refine ⟨v, he, ?_, hb⟩
      rw [fragRow_cut] at hown
      have : (Sough.cutAll s.data.toList id n).length = pcs s.size n := by simp [Sough.cutAll, hp]
      simpa [this] using hown

end Go.Proofs.Ytokphknnblpagaa
