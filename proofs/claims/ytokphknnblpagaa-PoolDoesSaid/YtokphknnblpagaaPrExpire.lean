/- The walks of soughref13's New and of its Pool's Expire. -/
import Derived.Test.YtokphknnblpagaaPrWithout
namespace Sough
theorem expAt_get {l : List PMsg} {now j : Nat} (h : j < l.length) : ∃ h' : j < (expAt l now (j + 1)).length, (expAt l now (j + 1))[j]'h' = l[j] := by
  have e := expAt_here (now := now) h
  have ht : (l.take j).length = j := by rw [List.length_take]; omega
  refine ⟨by rw [e, List.length_append, ht, List.length_cons]; omega, ?_⟩
  simp only [e]
  rw [List.getElem_append_right (by omega)]
  simp [ht]
end Sough
namespace Go.Proofs.Ytokphknnblpagaa
open Go.RowKit Go.Maps Go.ChangeMaps

theorem rnew_any {b0 slots room : Nat} (w : World) (hb : b0 ≤ w.heap.size) (h1 : 1 ≤ slots) (h2 : slots ≤ 16) (h3 : 1 ≤ room) (h4 : room ≤ 65536) :
    Calls Try.prog 10 #[.int .i64 slots, .int .i64 room] w fun e w' => ∃ r, e = .returned (.tuple #[.pointer (some ⟨r, 0, none⟩), .int .i64 0]) ∧ RefAt w' b0 r ⟨slots, room, []⟩ ∧ Below w.heap.size w w' := by
  have HN : Hid (RefAt (w.alloc (.cells #[.slice none 0 0, .int .i64 slots, .int .i64 room] TP)) b0 w.heap.size ⟨slots, room, []⟩) :=
    Lib.hid ⟨.slice none 0 0, fun _ => (0, 0), heap_alloc_new _ _, World.ownsRow_nil _ _ _ _, fun m hm => absurd hm (by simp), hb⟩
  go_enter Try.func10, Try.ntmps10
  go_wp2_with fail
  go_ret2
  exact ⟨_, rfl, HN.out, (Below.refl _ w).alloc (Nat.le_refl _) _⟩
theorem rnew_bad {slots room : Int} (w : World) (h : slots < 1 ∨ 16 < slots ∨ room < 1 ∨ 65536 < room) :
    Calls Try.prog 10 #[.int .i64 slots, .int .i64 room] w fun e w' => e = .returned (.tuple #[.pointer none, .int .i64 1]) ∧ w = w' := by
  by_cases h1 : slots < 1
  · clear h
    go_enter Try.func10, Try.ntmps10
    go_wp2_with fail
    go_ret2
    exact ⟨rfl, rfl⟩
  · by_cases h2 : 16 < slots
    · clear h
      go_enter Try.func10, Try.ntmps10
      go_wp2_with fail
      go_ret2
      exact ⟨rfl, rfl⟩
    · by_cases h3 : room < 1
      · clear h
        go_enter Try.func10, Try.ntmps10
        go_wp2_with fail
        go_ret2
        exact ⟨rfl, rfl⟩
      · have h4 : 65536 < room := by omega
        clear h
        go_enter Try.func10, Try.ntmps10
        go_wp2_with fail
        go_ret2
        exact ⟨rfl, rfl⟩

def RExpR (w : World) (b0 r now : Nat) (st : Sough.Pool) (A : Nat → Nat × Nat) (nv iv : Value) (wr : World) : Prop :=
  ∃ (j : Nat) (v : Int) (lv : Value), j ≤ st.l.length ∧ iv = .int .i64 v ∧ v = (j : Int) - 1 ∧ RCore wr b0 r lv ⟨st.slots, st.room, Sough.expAt st.l now j⟩ A ∧
    nv = .int .i64 (st.l.length - (Sough.expAt st.l now j).length : Nat) ∧ Turned [r] w wr
def RExpTo (w : World) (b0 r now : Nat) (st : Sough.Pool) (A : Nat → Nat × Nat) (e : Ending) (w' : World) : Prop :=
  e = .returned (.int .i64 (st.l.length - (st.expire now).l.length : Nat)) ∧ ∃ lv', RCore w' b0 r lv' (st.expire now) A ∧ Turned [r] w w'

set_option maxRecDepth 100000 in
set_option maxHeartbeats 3200000 in
theorem rexpire_any {b0 r now : Nat} {lv : Value} {st : Sough.Pool} {A : Nat → Nat × Nat} (w : World) (hc : RCore w b0 r lv st A) (hok : st.Ok) (hnow : now < 18446744073709551616) :
    Calls Try.prog 12 #[.pointer (some ⟨r, 0, none⟩), .int .u64 now] w (RExpTo w b0 r now st A) := by
  obtain ⟨a, cap, rfl⟩ := hc.shape
  obtain ⟨r0, r1, r2⟩ := cells3 hc.box
  obtain ⟨n, hn⟩ : ∃ n, st.l.length = n := ⟨_, rfl⟩
  have HC := Lib.hid hc; have HOK := Lib.hid hok; have HN := Lib.hid hn
  rw [hn] at r0
  have h16 : n ≤ 16 := by have := hok.len; have := hok.s1; omega
  clear hc hok hn r1 r2
  go_enter Try.func12, Try.ntmps12
  go_wp2_with fail
  clear r0
  go_loopw [5, 6] (fun nv iv wr => RExpR w b0 r now st A nv iv wr) (fun _ iv _ => (intOf iv + 1).toNat)
  case atStart => exact ⟨n, _, _, by rw [HN.out]; exact Nat.le_refl _, rfl, rfl, by rw [← HN.out, Sough.expAt_end]; exact HC.out, by rw [← HN.out, Sough.expAt_end]; simp, Turned.refl _ _⟩
  case round =>
    obtain ⟨j, v, lv', hj, rfl, hv, hcore, rfl, ht⟩ := hrel
    rw [HN.out] at hj ⊢
    have HL := Lib.hid (Sough.expAt_len st.l now j)
    cases j with
    | zero =>
      have hv' : v = -1 := by omega
      subst hv'
      have HE : Hid (RExpTo w b0 r now st A (.returned (.int .i64 (n - (Sough.expAt st.l now 0).length : Nat))) wr) := Lib.hid ⟨by rw [HN.out, Sough.expAt_zero], lv', by rw [Sough.expAt_zero] at hcore; exact hcore, ht⟩
      clear hcore ht hv
      go_wp2_with fail
      go_ret
      exact HE.out
    | succ i =>
      have hv' : v = (i : Int) := by omega
      subst hv'
      have hil : i < st.l.length := by rw [HN.out]; omega
      obtain ⟨hi', hget⟩ := Sough.expAt_get (now := now) hil
      obtain ⟨g, cap', rfl, hcap', _⟩ := hcore.head (Nat.lt_of_le_of_lt (Nat.zero_le i) hi')
      obtain ⟨r0, r1, r2⟩ := cells3 hcore.box
      have hcm := (hcore.msg rfl hi').2
      simp only [hget] at hcm
      obtain ⟨m, hm⟩ : ∃ m : Sough.PMsg, st.l[i]'hil = m := ⟨_, rfl⟩
      simp only [hm] at hcm
      have hmo := HOK.out.each m (hm ▸ List.getElem_mem hil)
      have hsi := hmo.since
      obtain ⟨c, hcl⟩ : ∃ c, (Sough.expAt st.l now (i + 1)).length = c := ⟨_, rfl⟩
      have hlen := HL.out
      have HCO := Lib.hid hcore; have HT := Lib.hid ht; have HM := Lib.hid hm; have HIL := Lib.hid hil; have HCL := Lib.hid hcl
      rw [HN.out, hcl] at hlen
      simp only [hcl] at r0 hi' ⊢
      clear hcore ht hm hmo hget hcl r1 r2 hcap' hv
      by_cases hold : m.old now = true
      · have ho' : m.since < now ∧ 50 < now - m.since := by simpa [Sough.PMsg.old] using hold
        have h1 : m.since < now := ho'.1
        have h2 : (50 : Int) < (now : Int) - m.since := by omega
        have hlt : (st.l.take i).length = i := by rw [List.length_take]; have := HIL.out; omega
        have hexp := Sough.expAt_here (now := now) HIL.out
        have CW := rwithout_any wr HCO.out (l1 := st.l.take i) (by rw [← hexp]) (by rw [HCL.out]; omega)
        rw [hlt] at CW
        have hnew := Sough.expAt_old (now := now) HIL.out (by rw [HM.out]; exact hold)
        rw [← hnew] at CW
        have CW := Lib.hid CW
        have hlen2 : (Sough.expAt st.l now i).length + 1 = c := by rw [← HCL.out, hexp, hnew]; simp; omega
        have HLEN := Lib.hid hlen2
        clear hold ho' hlt hexp hnew hlen2
        go_wp2_with fail
        refine CW.out.mono ?_
        rintro e w2 ⟨rfl, lv2, hc2, ht2⟩
        have HR : Hid (RExpR w b0 r now st A (.int .i64 ((n - c : Nat) + 1)) (.int .i64 ((i : Int) - 1)) w2) := by
          refine Lib.hid ⟨i, _, lv2, Nat.le_of_lt HIL.out, rfl, rfl, hc2, ?_, HT.out.trans ht2 (fun j e => .inl e)⟩
          have : (((n - c : Nat) : Int) + 1) = ((st.l.length - (Sough.expAt st.l now i).length : Nat) : Int) := by rw [HN.out]; have := HLEN.out; omega
          exact congrArg (Value.int .i64) this
        clear hc2 ht2 r0 hcm
        go_wp2_with fail
        go_roundw
        case rel => exact HR.out
        case measure => first | (simp [intOf]; done) | (simp [intOf]; omega)
      · have hold' : m.old now = false := by simpa using hold
        have ho' : ¬ (m.since < now ∧ 50 < now - m.since) := by simpa [Sough.PMsg.old] using hold'
        have hnew := Sough.expAt_new (now := now) HIL.out (by rw [HM.out]; exact hold')
        have HR : Hid (RExpR w b0 r now st A (.int .i64 (n - c : Nat)) (.int .i64 ((i : Int) - 1)) wr) := by
          refine Lib.hid ⟨i, _, _, Nat.le_of_lt HIL.out, rfl, rfl, by rw [hnew]; exact HCO.out, ?_, HT.out⟩
          rw [HN.out, hnew, HCL.out]
        clear hold hold' hnew
        by_cases h1 : m.since < now
        · have h2 : ¬ (50 : Int) < (now : Int) - m.since := by omega
          clear ho'
          go_wp2_with fail
          go_roundw
          case rel => exact HR.out
          case measure => first | (simp [intOf]; done) | (simp [intOf]; omega)
        · clear ho'
          go_wp2_with fail
          go_roundw
          case rel => exact HR.out
          case measure => first | (simp [intOf]; done) | (simp [intOf]; omega)

end Go.Proofs.Ytokphknnblpagaa
