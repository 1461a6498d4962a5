/- The walks of soughref10's numbers and reader. -/
import Derived.Test.YtjoanlhdocoddaaMsRef
namespace Sough
def numsL (l : List Int) : List UInt8 := l.flatMap fun x => put x.toNat
theorem numsL_snoc (l : List Int) (x : Int) : numsL (l ++ [x]) = numsL l ++ put x.toNat := by simp [numsL]
end Sough
namespace Go.Proofs.Ytjoanlhdocoddaa
open Go.RowKit Go.Maps Go.ChangeMaps

def NumsR (l : List Int) (w : World) (n : Nat) (sv iv : Value) (wr : World) : Prop := ∃ k : Nat, k ≤ n ∧ iv = .int .i64 k ∧ sv = .string ⟨(Sough.numsL (l.take k)).toArray⟩ ∧ (Sough.numsL (l.take k)).length ≤ 10 * k ∧ Below w.heap.size w wr

set_option maxRecDepth 100000 in
set_option maxHeartbeats 1600000 in
theorem nums_any {g c n : Nat} {l : List Int} {T : TypeId} (hn : l.length = n) (hl : n ≤ 1000) (hz : ∀ x ∈ l, 0 ≤ x ∧ x < 18446744073709551616) (w : World) (hf : w.heap[g]? = some (.cells (l.map (Value.int .i64)).toArray T (0, 0))) :
    Calls Try.prog 35 #[.slice (some ⟨g, 0, none⟩) n c] w fun e w' => e = .returned (.string ⟨(Sough.numsL l).toArray⟩) ∧ Below w.heap.size w w' := by
  have HF := Lib.hid hf; have HN := Lib.hid hn; have HZ := Lib.hid hz; clear hf hn hz
  go_enter Try.func35, Try.ntmps35
  go_wp2_with fail
  go_loopw [3, 4] (fun sv iv wr => NumsR l w n sv iv wr) (fun _ iv _ => n - (intOf iv).toNat)
  case atStart => exact ⟨0, Nat.zero_le _, rfl, rfl, Nat.zero_le _, Below.refl _ _⟩
  case round =>
    obtain ⟨k, hk, rfl, rfl, hlen, hbel⟩ := hrel
    have HBL := Lib.hid hbel
    by_cases hlt : k < n
    · have hkl : k < l.length := by rw [HN.out]; exact hlt
      have F0 : wr.cell? ⟨g, k, none⟩ = some (.int .i64 l[k]) := by
        have h := (hbel.block _ (lt_of_block HF.out)).trans HF.out
        simp [World.cell?, h, List.getElem?_eq_getElem hkl]
      obtain ⟨z0, z1⟩ := HZ.out l[k] (List.getElem_mem hkl)
      have HS := Lib.hid (show Sough.numsL (l.take (k + 1)) = Sough.numsL (l.take k) ++ Sough.put l[k].toNat by rw [List.take_succ_eq_append_getElem hkl, Sough.numsL_snoc])
      generalize l[k] = z at *
      have hwr : IntKind.u64.wrap z = z := by rw [IntKind.wrap_u64]; omega
      have hpl := Sough.put_len z.toNat
      clear hbel
      go_wp2_with fail
      refine (rput_any z z0 z1 _).mono ?_
      rintro e w2 ⟨rfl, hb⟩
      have HB2 := Lib.hid (ext_trans HBL.out hb)
      clear hb F0 hwr
      go_wp2_with fail
      go_roundw
      case rel => exact ⟨k + 1, by omega, by go_num, by rw [HS.out, bytes_append], by rw [HS.out, List.length_append]; omega, HB2.out⟩
      case measure => simp [intOf]; omega
    · obtain rfl : k = n := by omega
      clear hbel
      go_wp2_with fail
      go_ret
      refine ⟨?_, HBL.out⟩
      rw [List.take_of_length_le (by rw [HN.out]; exact Nat.le_refl _)]
      rfl

/-- A reader in memory. -/
def rdC (s : List UInt8) (r : Sough.Rd) : Array Value := #[.string ⟨s.toArray⟩, .int .i64 r.k, .int .i64 r.er]

/-- What a reader's call leaves. -/
def RdTo (s : List UInt8) (w : World) (b : Nat) (T : TypeId) (v : Value) (q : Sough.Rd) (e : Ending) (w' : World) : Prop :=
  e = .returned v ∧ q.k ≤ s.length ∧ w'.heap[b]? = some (.cells (rdC s q) T (0, 0)) ∧ Turned [b] w w'
theorem cells3r {w : World} {p : Nat} {a b c : Value} {T : TypeId} (h : w.heap[p]? = some (.cells #[a, b, c] T (0, 0))) :
    (w.cell? ⟨p, 0, none⟩ = some a ∧ w.cell? ⟨p, 1, none⟩ = some b ∧ w.cell? ⟨p, 2, none⟩ = some c) ∧ w.frozen? ⟨p, 1, none⟩ = false ∧ w.frozen? ⟨p, 2, none⟩ = false := by
  simp [World.cell?, World.frozen?, h]
theorem rnum_le {s : List UInt8} {r q : Sough.Rd} {n : Nat} (h : Sough.rnum s r = (n, q)) : n ≤ 4294967296 := by
  unfold Sough.rnum at h
  split at h
  · cases h; omega
  · split at h
    · cases h; omega
    · split at h
      · cases h; omega
      · cases h; omega

theorem set3_1 {W : World} {b : Nat} {x y z v : Value} {T : TypeId} (h : W.heap[b]? = some (.cells #[x, y, z] T (0, 0))) : (W.setCell ⟨b, 1, none⟩ v).heap[b]? = some (.cells #[x, v, z] T (0, 0)) := by
  simp only [World.setCell, Array.getElem?_modify, if_pos, h]; rfl
theorem set3_2 {W : World} {b : Nat} {x y z v : Value} {T : TypeId} (h : W.heap[b]? = some (.cells #[x, y, z] T (0, 0))) : (W.setCell ⟨b, 2, none⟩ v).heap[b]? = some (.cells #[x, y, v] T (0, 0)) := by
  simp only [World.setCell, Array.getElem?_modify, if_pos, h]; rfl

set_option maxRecDepth 100000 in
set_option maxHeartbeats 3200000 in
theorem rnum_any {b : Nat} {s : List UInt8} {r q : Sough.Rd} {n : Nat} {T : TypeId} (hq : Sough.rnum s r = (n, q)) (w : World) (hf : w.heap[b]? = some (.cells (rdC s r) T (0, 0))) (hs : s.length ≤ 5000) (hk : r.k ≤ s.length) :
    Calls Try.prog 25 #[.pointer (some ⟨b, 0, none⟩)] w (RdTo s w b T (.int .u64 n) q) := by
  have HQ := Lib.hid hq; have HF := Lib.hid hf; clear hq hf
  have hsz : (⟨s.toArray⟩ : ByteArray).size ≤ maxLen := by rw [mk_size]; unfold maxLen; omega
  by_cases he : r.er = 0
  · obtain ⟨⟨c0, c1, c2⟩, f1, f2⟩ := cells3r HF.out
    have y0 := fun x : Later w => x.cell c0
    have y1 := fun x : Later w => x.cell c1
    rcases hg : Sough.get s r.k with ⟨m, p, er⟩
    have CG := fun w => rget_as (s := ⟨s.toArray⟩) (k := r.k) (n := m) (p := p) (er := er) hg w hsz
    have gb := get_bounds hg
    have HQ' := HQ.out
    unfold Sough.rnum at HQ'
    rw [if_neg (by simpa using he), hg] at HQ'
    simp only at HQ'
    have HQ2 := Lib.hid HQ'; have HE := Lib.hid he; clear HQ' HQ hg hsz
    rw [he] at c2
    clear he
    go_enter Try.func25, Try.ntmps25
    go_wp2_with fail
    refine wp_region_later (by kernel_rfl) (by kernel_rfl) ?_
    repeat (first | go_big_quiet_step (fail) | go_big_quiet_step ((go_at_call 24; exact Calls.later (CG _))))
    refine wpQuiet_nil ?_
    rintro ⟨w2, hb2⟩
    change Exit.then _ _ _ _ w2
    have HF2 := Lib.hid ((hb2.block _ (lt_of_block HF.out)).trans HF.out)
    have HT2 : Hid (Turned [b] w w2) := Lib.hid (Turned.below hb2)
    clear y0 y1 CG c0 c1 c2 f1 f2 hb2
    obtain ⟨⟨c0, c1, c2⟩, f1, f2⟩ := cells3r HF2.out
    by_cases h0 : er = 0
    · subst h0
      by_cases hbig : 4294967296 < m
      · have hq1 : n = 0 ∧ q = ⟨r.k, 3⟩ := by have := HQ2.out; rw [if_pos ⟨rfl, hbig⟩] at this; cases this; exact ⟨rfl, rfl⟩
        obtain ⟨rfl, rfl⟩ := hq1
        go_wp2_with fail
        go_ret
        exact ⟨rfl, hk, set3_2 HF2.out, HT2.out.trans (Turned.setCell (S := [b]) (by simp) _) (by simp)⟩
      · have hq1 : n = m ∧ q = ⟨p, 0⟩ := by have := HQ2.out; rw [if_neg (fun e => hbig e.2), if_neg (by simp)] at this; cases this; exact ⟨rfl, rfl⟩
        obtain ⟨rfl, rfl⟩ := hq1
        have hbig' : n ≤ 4294967296 := by omega
        go_wp2_with fail
        go_ret
        exact ⟨rfl, gb.1, set3_1 (set3_2 HF2.out), (HT2.out.trans (Turned.setCell (S := [b]) (by simp) _) (by simp)).trans (Turned.setCell (S := [b]) (by simp) _) (by simp)⟩
    · have hq1 : n = 0 ∧ q = ⟨r.k, er⟩ := by have := HQ2.out; rw [if_neg (fun e => h0 e.1), if_pos h0] at this; cases this; exact ⟨rfl, rfl⟩
      obtain ⟨rfl, rfl⟩ := hq1
      have b1 : ((er : Int) == 0) = false := by simpa using h0
      have b2 : ((er : Int) != 0) = true := by simpa using h0
      clear h0
      go_wp2_with fail
      go_ret
      exact ⟨rfl, hk, set3_2 HF2.out, HT2.out.trans (Turned.setCell (S := [b]) (by simp) _) (by simp)⟩
  · have hq1 := HQ.out
    rw [Sough.rnum_er he] at hq1
    cases hq1
    obtain ⟨⟨c0, c1, c2⟩, f1, f2⟩ := cells3r HF.out
    have b2 : ((r.er : Int) != 0) = true := by simpa using he
    clear he
    go_enter Try.func25, Try.ntmps25
    go_wp2_with fail
    go_ret
    exact ⟨rfl, hk, HF.out, Turned.refl _ _⟩

end Go.Proofs.Ytjoanlhdocoddaa
