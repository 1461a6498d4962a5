/- split.Decode at any bytes; soughref11.Decode. -/
import Derived.Test.YtkogjhdcakjpeaaSpDec
namespace Go.Proofs.Ytkogjhdcakjpeaa
open Go.RowKit

theorem ext_list (s : ByteArray) (p : Nat) : (s.extract p s.size).data.toList = s.data.toList.drop p := by
  simp [Array.toList_extract, List.extract]
  apply List.take_of_length_le
  simp
theorem ext_bytes (s : ByteArray) (p : Nat) : s.extract p s.size = ⟨(s.data.toList.drop p).toArray⟩ := by
  rw [← ext_list, bytes_toArray]
theorem ret_eq {a b : Value} (h : a = b) : Ending.returned a = .returned b := by rw [h]

/-- split.Decode. -/
theorem dec_as {s : ByteArray} {f : Sough.Frag} {er : Nat} (hd : Sough.decode s.data.toList = (f, er)) (w : World) (hs : s.size ≤ maxLen) :
    Calls Try.prog 17 #[.string s] w fun e w' => e = .returned (.tuple #[fragV f, .int .i64 er]) ∧ Below w.heap.size w w' := by
  rcases h0 : Sough.get s.data.toList 0 with ⟨a, p0, e0⟩
  rcases h1 : Sough.get s.data.toList p0 with ⟨b, p1, e1⟩
  rcases h2 : Sough.get s.data.toList p1 with ⟨c, p2, e2⟩
  by_cases q0 : e0 = 0
  · subst q0
    by_cases q1 : e1 = 0
    · subst q1
      by_cases q2 : e2 = 0
      · subst q2
        have hd' : (if Sough.Frag.ok ⟨a, b, c, s.data.toList.drop p2⟩ then ((⟨a, b, c, s.data.toList.drop p2⟩ : Sough.Frag), 0) else (Sough.zeroFrag, 3)) = (f, er) := by
          rw [← hd]; simp [Sough.decode, h0, h1, h2]
        clear hd
        by_cases hok : Sough.Frag.ok ⟨a, b, c, s.data.toList.drop p2⟩
        · rw [if_pos hok] at hd'
          obtain ⟨rfl, rfl⟩ := Prod.mk.inj hd'
          have hok' := hok
          obtain ⟨k1, k2, k3, k4, k5, k6, k7, k8⟩ := hok
          simp only at k1 k2 k3 k4 k5 k6 k7 k8
          have := dec_good h0 h1 h2 (by rw [ext_list]; exact (Sough.right_iff _).2 hok') (by omega) (by omega) (by omega) w hs
          rw [ext_bytes] at this
          exact this
        · rw [if_neg hok] at hd'
          obtain ⟨rfl, rfl⟩ := Prod.mk.inj hd'
          by_cases hbig : 4294967296 < a ∨ 4294967296 < b ∨ 4294967296 < c
          · exact dec_big h0 h1 h2 hbig w hs
          · exact dec_bad h0 h1 h2 (by rw [ext_list, Bool.eq_false_iff]; exact fun h => hok ((Sough.right_iff _).1 h)) (by omega) (by omega) (by omega) w hs
      · have : Sough.decode s.data.toList = (Sough.zeroFrag, e2) := by simp [Sough.decode, h0, h1, h2, q2]
        obtain ⟨rfl, rfl⟩ := Prod.mk.inj (hd.symm.trans this)
        exact dec_err2 h0 h1 h2 q2 w hs
    · have : Sough.decode s.data.toList = (Sough.zeroFrag, e1) := by simp [Sough.decode, h0, h1, q1]
      obtain ⟨rfl, rfl⟩ := Prod.mk.inj (hd.symm.trans this)
      exact dec_err1 h0 h1 q1 w hs
  · have : Sough.decode s.data.toList = (Sough.zeroFrag, e0) := by simp [Sough.decode, h0, q0]
    obtain ⟨rfl, rfl⟩ := Prod.mk.inj (hd.symm.trans this)
    exact dec_err0 h0 q0 w hs

end Go.Proofs.Ytkogjhdcakjpeaa
