/- Plain laws of parts: encoded, decoded. No program in sight. -/
import Derived.Test.YtkogjhdcakjpeaaSpPlain
namespace Sough

theorem bytes_ne (f : Frag) : f.bytes ≠ [] := by
  have := (put_len f.id).1
  intro h
  have h2 := congrArg List.length h
  simp only [Frag.bytes, List.length_append, List.length_nil] at h2
  omega
theorem encode_ok {f : Frag} (h : f.ok) : f.encode = f.bytes := by simp [Frag.encode, h]
theorem encode_no {f : Frag} (h : ¬ f.ok) : f.encode = [] := by simp [Frag.encode, h]
theorem encode_nil {f : Frag} : f.encode = [] ↔ ¬ f.ok := by
  by_cases h : f.ok
  · simp [encode_ok h, bytes_ne, h]
  · simp [encode_no h, h]

theorem decode_bytes {f : Frag} (h : f.ok) : decode f.bytes = (f, 0) := by
  obtain ⟨k1, k2, k3, k4, k5, k6, k7, k8⟩ := h
  have g0 : get f.bytes 0 = (f.id, (put f.id).length, 0) := by
    have := get_put [] (put f.index.toNat ++ (put f.count.toNat ++ f.part)) f.id (by omega)
    simpa [Frag.bytes] using this
  have g1 : get f.bytes ((put f.id).length : Nat) = (f.index.toNat, (put f.id).length + (put f.index.toNat).length, 0) :=
    get_put (put f.id) (put f.count.toNat ++ f.part) f.index.toNat (by omega)
  have g2 : get f.bytes (((put f.id).length + (put f.index.toNat).length : Nat) : Int) = (f.count.toNat, (put f.id).length + (put f.index.toNat).length + (put f.count.toNat).length, 0) := by
    have := get_put (put f.id ++ put f.index.toNat) f.part f.count.toNat (by omega)
    simpa [Frag.bytes, List.append_assoc] using this
  have hd : f.bytes.drop ((put f.id).length + (put f.index.toNat).length + (put f.count.toNat).length) = f.part := by
    have e : f.bytes = (put f.id ++ put f.index.toNat ++ put f.count.toNat) ++ f.part := by simp [Frag.bytes]
    rw [e, List.drop_append_of_le_length (by simp; omega)]
    rw [List.drop_of_length_le (by simp; omega)]
    rfl
  have e1 : ((f.index.toNat : Nat) : Int) = f.index := by omega
  have e2 : ((f.count.toNat : Nat) : Int) = f.count := by omega
  have hf : (⟨f.id, f.index.toNat, f.count.toNat, f.part⟩ : Frag) = f := by rw [e1, e2]
  unfold decode
  simp only [g0, g1, g2, hd, hf]
  rw [if_neg (by simp), if_neg (by simp), if_neg (by simp), if_pos ⟨k1, k2, k3, k4, k5, k6, k7, k8⟩]

theorem bytes_inj {f g : Frag} (hf : f.ok) (hg : g.ok) (h : f.bytes = g.bytes) : f = g := by
  have a := decode_bytes hf
  rw [h, decode_bytes hg] at a
  exact (Prod.mk.inj a).1.symm

end Sough
