/- The walks of soughref13.Pool's Held and of join. -/
import Derived.Test.YtokphknnblpagaaPrMem
import Derived.LoopTactic
namespace Sough
theorem psum_le {ps : List (Nat × List UInt8)} (k : Nat) : psum (ps.take k) ≤ psum ps := by
  have : psum ps = psum (ps.take k) + psum (ps.drop k) := by
    unfold psum
    rw [← List.sum_append, ← List.map_append, List.take_append_drop]
  omega
theorem heldOf_le {l : List PMsg} (k : Nat) : heldOf (l.take k) ≤ heldOf l := by
  conv => rhs; rw [← List.take_append_drop k l]
  rw [heldOf_append]; omega
theorem gather_len {ps : List (Nat × List UInt8)} {B : Nat} (h : ∀ p ∈ ps, p.2.length ≤ B) (i : Nat) : (gather ps i).length ≤ B * ps.length := by
  induction ps with
  | nil => simp [gather]
  | cons p ps ih =>
    have hc : gather (p :: ps) i = (if p.1 = i then p.2 else []) ++ gather ps i := by simp [gather]
    have h1 := ih fun q hq => h q (List.mem_cons_of_mem _ hq)
    have h2 := h p (List.mem_cons_self ..)
    rw [hc, List.length_append, List.length_cons, Nat.mul_succ]
    split
    · omega
    · simp; omega
theorem gathered_len {ps : List (Nat × List UInt8)} {B : Nat} (h : ∀ p ∈ ps, p.2.length ≤ B) : ∀ i, (gathered ps i).length ≤ B * ps.length * i
  | 0 => by simp [gathered]
  | i + 1 => by
    rw [gathered_succ, List.length_append, Nat.mul_succ]
    have := gathered_len h i
    have := gather_len h i
    omega
end Sough
namespace Go.Proofs.Ytokphknnblpagaa
open Go.RowKit Go.Maps Go.ChangeMaps

/-- A row of parts: the four cells of one. -/
theorem row_part {w : World} {base g n cap : Nat} {T : TypeId} {m : Sough.PMsg} (h : w.ownsRow base T 4 (.slice (some ⟨g, 0, none⟩) n cap) n ((Sough.fragsOf m).flatMap fragCells)) {k : Nat} (hk : k < m.parts.length) :
    w.cell? ⟨g, k * 4, none⟩ = some (.int .u64 m.id) ∧ w.cell? ⟨g, k * 4 + 1, none⟩ = some (.int .i64 (m.parts[k].1 : Nat)) ∧ w.cell? ⟨g, k * 4 + 2, none⟩ = some (.int .i64 m.count) ∧ w.cell? ⟨g, k * 4 + 3, none⟩ = some (.string ⟨m.parts[k].2.toArray⟩) := by
  obtain ⟨a, b, c, d⟩ := cells_at (Sough.fragsOf m) k (by rw [Sough.fragsOf_len]; exact hk)
  have e : Sough.fragAt (Sough.fragsOf m) k = ⟨m.id, m.parts[k].1, m.count, m.parts[k].2⟩ := by
    rw [Sough.fragAt, List.getD_eq_getElem?_getD, List.getElem?_eq_getElem (by rw [Sough.fragsOf_len]; exact hk), Option.getD_some, Sough.fragsOf_at hk]
  rw [e] at a b c d
  exact ⟨own_cell h a, own_cell h b, own_cell h c, own_cell h d⟩

def RHeldR (l : List Sough.PMsg) (nv iv : Value) : Prop := ∃ i : Nat, i ≤ l.length ∧ iv = .int .i64 i ∧ nv = .int .i64 (Sough.heldOf (l.take i))
def RHeldS (B : Nat) (ps : List (Nat × List UInt8)) (nv kv : Value) : Prop := ∃ k : Nat, k ≤ ps.length ∧ kv = .int .i64 k ∧ nv = .int .i64 (B + Sough.psum (ps.take k) : Nat)

set_option maxRecDepth 100000 in
set_option maxHeartbeats 3200000 in
theorem rheld_any {b0 r : Nat} {lv : Value} {st : Sough.Pool} {A : Nat → Nat × Nat} (w : World) (hc : RCore w b0 r lv st A) (hok : st.Ok) :
    Calls Try.prog 18 #[.pointer (some ⟨r, 0, none⟩)] w fun e w' => e = .returned (.tuple #[.int .i64 st.l.length, .int .i64 st.held]) ∧ w = w' := by
  obtain ⟨a, cap, rfl⟩ := hc.shape
  obtain ⟨r0, r1, r2⟩ := cells3 hc.box
  obtain ⟨n, hn⟩ : ∃ n, st.l.length = n := ⟨_, rfl⟩
  have HC := Lib.hid hc; have HOK := Lib.hid hok; have HN := Lib.hid hn
  rw [hn] at r0 ⊢
  have h16 : n ≤ 16 := by have := hok.len; have := hok.s1; omega
  have hh : st.held ≤ 65536 := by have := hok.held; have := hok.r1; omega
  clear hc hok hn r1 r2
  go_enter Try.func18, Try.ntmps18
  go_wp2_with fail
  go_loop [4, 5] (fun nv iv => RHeldR st.l nv iv) (fun _ iv => n - (intOf iv).toNat)
  case atStart => exact ⟨0, Nat.zero_le _, rfl, rfl⟩
  case round =>
    obtain ⟨i, hi, rfl, rfl⟩ := hrel
    rw [HN.out] at hi
    by_cases hlt : i < n
    · have hil : i < st.l.length := by rw [HN.out]; exact hlt
      obtain ⟨g, cap', e, _, _⟩ := HC.out.head (by omega)
      rw [HN.out] at e
      injection e with e1 e2 e3
      subst e1 e3
      obtain ⟨m, hm⟩ : ∃ m, st.l[i] = m := ⟨_, rfl⟩
      have hmem : m ∈ st.l := hm ▸ List.getElem_mem hil
      have hcm := (HC.out.msg (by rw [HN.out]) hil).1
      rw [hm] at hcm
      have hmo := HOK.out.each m hmem
      have hp16 : m.parts.length ≤ 16 := by have := hmo.few; have := hmo.c2; omega
      have hsum : Sough.heldOf (st.l.take i) + m.bytes ≤ 65536 := by
        have h1 := Sough.heldOf_take hil
        have h2 := Sough.heldOf_le (l := st.l) (i + 1)
        rw [hm] at h1
        have : st.held = Sough.heldOf st.l := rfl
        omega
      have HSUM := Lib.hid hsum
      have HMEM := Lib.hid hmem; have HM := Lib.hid hm; have HIL := Lib.hid hil
      clear hmem hm hmo hsum
      obtain ⟨B, hB⟩ : ∃ B, Sough.heldOf (st.l.take i) = B := ⟨_, rfl⟩
      rw [hB]
      have HB := Lib.hid hB
      clear hB
      obtain ⟨ga, hga⟩ : ∃ ga, (A m.id).1 = ga := ⟨_, rfl⟩
      obtain ⟨ca, hca⟩ : ∃ ca, (A m.id).2 = ca := ⟨_, rfl⟩
      rw [hga, hca] at hcm
      have HGA := Lib.hid hga; have HCA := Lib.hid hca
      clear hga hca
      go_wp2_with fail
      go_loop [4, 6] (fun nv kv => RHeldS B m.parts nv kv) (fun _ kv => m.parts.length - (intOf kv).toNat)
      case atStart => exact ⟨0, Nat.zero_le _, rfl, by simp [Sough.psum]⟩
      case round =>
        obtain ⟨k, hk, rfl, rfl⟩ := hrel
        by_cases hlt2 : k < m.parts.length
        · have hpt := (HC.out.part HMEM.out hlt2).2.2.2
          rw [HGA.out] at hpt
          have hs := Sough.psum_take hlt2
          have hs2 := Sough.psum_le (ps := m.parts) (k + 1)
          have hs3 := HSUM.out
          rw [HB.out] at hs3
          unfold Sough.PMsg.bytes at hs3
          have HS := Lib.hid hs
          have hb1 : B + Sough.psum (m.parts.take k) ≤ 65536 := by omega
          have hb2 : m.parts[k].2.length ≤ 65536 := by omega
          clear hs hs2 hs3
          go_wp2_with fail
          go_round
          case rel => exact ⟨k + 1, by omega, by go_num, by rw [HS.out]; first | go_num | (congr 1; omega)⟩
          case measure => simp [intOf]; omega
        · obtain rfl : k = m.parts.length := by omega
          go_wp2_with fail
          go_round
          case rel =>
            refine ⟨i + 1, HIL.out, by go_num, ?_⟩
            rw [Sough.heldOf_take HIL.out, HM.out, HB.out, List.take_length]
            rfl
          case measure => simp [intOf]; omega
    · obtain rfl : i = n := by omega
      have ht : st.l.take i = st.l := by rw [← HN.out, List.take_length]
      rw [ht]
      clear ht
      go_wp2_with fail
      go_ret2
      exact ⟨rfl, rfl⟩

def RJoinR (ps : List (Nat × List UInt8)) (sv iv : Value) : Prop := ∃ i : Nat, i ≤ ps.length ∧ iv = .int .i64 i ∧ sv = .string ⟨(Sough.gathered ps i).toArray⟩
def RJoinS (ps : List (Nat × List UInt8)) (i : Nat) (sv kv : Value) : Prop := ∃ k : Nat, k ≤ ps.length ∧ kv = .int .i64 k ∧ sv = .string ⟨(Sough.gathered ps i ++ Sough.gather (ps.take k) i).toArray⟩

set_option maxRecDepth 100000 in
set_option maxHeartbeats 3200000 in
theorem rjoin_any {b0 g n cap : Nat} {m : Sough.PMsg} (w : World) (ho : w.ownsRow b0 TF 4 (.slice (some ⟨g, 0, none⟩) n cap) n ((Sough.fragsOf m).flatMap fragCells)) (hn : m.parts.length = n) (h16 : n ≤ 16) (hp : ∀ p ∈ m.parts, p.1 < 16 ∧ p.2.length ≤ 1000) :
    Calls Try.prog 26 #[.slice (some ⟨g, 0, none⟩) n cap] w fun e w' => e = .returned (.string ⟨(Sough.gathered m.parts n).toArray⟩) ∧ w = w' := by
  have HO := Lib.hid ho; have HP := Lib.hid hp; have HN := Lib.hid hn
  have hj : Hid (∀ i, i ≤ 16 → (Sough.gathered m.parts i).length ≤ 256000) := Lib.hid fun i hi => by
    have := Sough.gathered_len (fun p h => (hp p h).2) i
    have h1 : 1000 * m.parts.length * i ≤ 1000 * 16 * 16 := Nat.mul_le_mul (Nat.mul_le_mul_left _ (by omega)) hi
    omega
  have hg : Hid (∀ k i, k ≤ m.parts.length → (Sough.gather (m.parts.take k) i).length ≤ 16000) := Lib.hid fun k i hk => by
    have := Sough.gather_len (ps := m.parts.take k) (fun p h => (hp p (List.mem_of_mem_take h)).2) i
    rw [List.length_take, Nat.min_eq_left hk] at this
    have : 1000 * k ≤ 1000 * 16 := Nat.mul_le_mul_left _ (by omega)
    omega
  clear ho hp hn
  go_enter Try.func26, Try.ntmps26
  go_wp2_with fail
  go_loop [3, 4] (fun sv iv => RJoinR m.parts sv iv) (fun _ iv => n - (intOf iv).toNat)
  case atStart => exact ⟨0, Nat.zero_le _, rfl, rfl⟩
  case round =>
    obtain ⟨i, hi, rfl, rfl⟩ := hrel
    rw [HN.out] at hi
    by_cases hlt : i < n
    · go_wp2_with fail
      go_loop [3, 5] (fun sv kv => RJoinS m.parts i sv kv) (fun _ kv => n - (intOf kv).toNat)
      case atStart => exact ⟨0, Nat.zero_le _, rfl, by simp [Sough.gather]⟩
      case round =>
        obtain ⟨k, hk, rfl, rfl⟩ := hrel
        rw [HN.out] at hk
        by_cases hlt2 : k < n
        · have hkl : k < m.parts.length := by rw [HN.out]; exact hlt2
          obtain ⟨_, p1, _, p3⟩ := row_part HO.out hkl
          have hb := HP.out _ (List.getElem_mem hkl)
          have hb1 := hj.out i (by omega)
          have hb2 := hg.out k i (by omega)
          have HS := Lib.hid (Sough.gather_succ i hkl)
          have hlen : (Sough.gathered m.parts i ++ Sough.gather (m.parts.take k) i).length ≤ 300000 := by rw [List.length_append]; omega
          have HKL := Lib.hid hkl
          clear hb1 hb2
          obtain ⟨q, hq⟩ : ∃ q : Nat × List UInt8, m.parts[k]'hkl = q := ⟨_, rfl⟩
          simp only [hq] at p1 p3 hb HS
          obtain ⟨T, hT⟩ : ∃ T, T = Sough.gathered m.parts i ++ Sough.gather (m.parts.take k) i := ⟨_, rfl⟩
          rw [← hT] at hlen ⊢
          have HT := Lib.hid hT
          clear hT hq hkl
          by_cases he : q.1 = i
          · have d1 : ((q.1 : Int) == i) = true := by simp; omega
            go_wp2_with fail
            go_round
            case rel => exact ⟨k + 1, HKL.out, by go_num, by rw [bapp, HS.out, if_pos he, HT.out, List.append_assoc]⟩
            case measure => simp [intOf]; omega
          · have d1 : ((q.1 : Int) == i) = false := by simp; omega
            go_wp2_with fail
            go_round
            case rel => exact ⟨k + 1, HKL.out, by go_num, by rw [HS.out, if_neg he, HT.out, List.append_nil]⟩
            case measure => simp [intOf]; omega
        · obtain rfl : k = n := by omega
          have ht : m.parts.take k = m.parts := by rw [← HN.out, List.take_length]
          rw [ht, ← Sough.gathered_succ]
          clear ht
          go_wp2_with fail
          go_round
          case rel => exact ⟨i + 1, by rw [HN.out]; exact hlt, by go_num, rfl⟩
          case measure => simp [intOf]; omega
    · obtain rfl : i = n := by omega
      go_wp2_with fail
      go_ret
      exact ⟨rfl, rfl⟩

end Go.Proofs.Ytokphknnblpagaa
