/- The document's Reader.offer; its Right at any message; what its Decode leaves. -/
import Derived.Test.YtjoanlhdocoddaaMsREnc1
import Derived.Test.YtjoanlhdocoddaaMsREnc2
import Derived.Test.YtjoanlhdocoddaaMsREnc3
import Derived.Test.YtjoanlhdocoddaaMsREnc4
import Derived.Test.YtjoanlhdocoddaaMsDec2
import Derived.Deep.Cut
namespace Go.Proofs.Ytjoanlhdocoddaa
open Go.RowKit Go.Maps Go.ChangeMaps



set_option maxRecDepth 100000 in
set_option maxHeartbeats 3200000 in
theorem rr0 {m : Sough.Msg} (w : World) (hk : m.v 0 < 1 ∨ 4 < m.v 0) : Calls Try.prog 13 #[.agg (msgC m)] w fun e w' => e = .returned (.bool false) ∧ Below w.heap.size w w' := by
  unfold msgC
  by_cases h1 : m.v 0 < 1
  · clear hk
    go_enter Try.func13, Try.ntmps13
    go_wp2_with fail
    go_ret
    exact ⟨rfl, (Below.refl _ _).alloc (Nat.le_refl _) _⟩
  · have h2 : 4 < m.v 0 := by omega
    have h3 : 1 ≤ m.v 0 := by omega
    clear hk
    go_enter Try.func13, Try.ntmps13
    go_wp2_with fail
    go_ret
    exact ⟨rfl, (Below.refl _ _).alloc (Nat.le_refl _) _⟩
theorem rright_any {m : Sough.Msg} {b : Bool} (hb : m.right = b) (w : World) (hwf : m.Wf) : Calls Try.prog 13 #[.agg (msgC m)] w fun e w' => e = .returned (.bool b) ∧ Below w.heap.size w w' := by
  subst hb
  rcases Sough.flds_cases (m.v 0) with ⟨h, _⟩ | ⟨h, _⟩ | ⟨h, _⟩ | ⟨h, _⟩ | ⟨h1, h2, h3, h4, hf⟩
  · have := rr1 m w hwf; rwa [Sough.wk_self h] at this
  · have := rr2 m w hwf; rwa [Sough.wk_self h] at this
  · have := rr3 m w hwf; rwa [Sough.wk_self h] at this
  · have := rr4 m w hwf; rwa [Sough.wk_self h] at this
  · have : m.right = false := by unfold Sough.Msg.right; rw [hf]; rfl
    rw [this]
    exact rr0 w (by omega)

theorem getText_at {s : List UInt8} {k most : Int} : (Sough.getText s k most).2.1 ≤ s.length := by
  have hg : (Sough.get s k).2.1 ≤ s.length := by
    rcases hh : Sough.get s k with ⟨n, p, er⟩
    exact (get_bounds hh).1
  unfold Sough.getText
  simp only
  split <;> (try split) <;> (try split) <;> simp only [] <;> omega

set_option maxRecDepth 100000 in
set_option maxHeartbeats 3200000 in
theorem roff_any {b : Nat} {s t : List UInt8} {r q : Sough.Rd} {T : TypeId} (hq : Sough.roff s r = (t, q)) (w : World) (hf : w.heap[b]? = some (.cells (rdC s r) T (0, 0))) (hs : s.length ≤ 5000) (hk : r.k ≤ s.length) :
    Calls Try.prog 26 #[.pointer (some ⟨b, 0, none⟩)] w (RdTo s w b T (.string ⟨t.toArray⟩) q) := by
  have HQ := Lib.hid hq; have HF := Lib.hid hf; clear hq hf
  have hsz : (⟨s.toArray⟩ : ByteArray).size ≤ maxLen := by rw [mk_size]; unfold maxLen; omega
  by_cases he : r.er = 0
  · obtain ⟨⟨c0, c1, c2⟩, f1, f2⟩ := cells3r HF.out
    have y0 := fun x : Later w => x.cell c0
    have y1 := fun x : Later w => x.cell c1
    rcases hg : Sough.get s r.k with ⟨m, p, er0⟩
    have gb := get_bounds hg
    have CG := fun w => rgett_walk (s := ⟨s.toArray⟩) (k := r.k) (most := 8) (n := m) (p := p) (er := er0) hg w hsz (by omega) (by rw [mk_size]; exact gb.1) gb.2
    have hpl := getText_at (s := s) (k := r.k) (most := 8)
    unfold TextRes at CG
    simp only at CG
    have HQ' := HQ.out
    unfold Sough.roff at HQ'
    rw [if_neg (by simpa using he)] at HQ'
    obtain ⟨t', p', er, hgt⟩ : ∃ t' p' er, Sough.getText s r.k 8 = (t', p', er) := ⟨_, _, _, rfl⟩
    rw [hgt] at HQ' CG hpl
    simp only at HQ' CG hpl
    cases HQ'
    have HE := Lib.hid he; clear HQ hg hsz gb hgt
    rw [he] at c2
    clear he
    go_enter Try.func26, Try.ntmps26
    go_wp2_with fail
    refine wp_region_later (by kernel_rfl) (by kernel_rfl) ?_
    repeat (first | go_big_quiet_step (fail) | go_big_quiet_step ((go_at_call 43; exact Calls.later (CG _))))
    refine wpQuiet_nil ?_
    rintro ⟨w2, hb2⟩
    change Exit.then _ _ _ _ w2
    have HF2 := Lib.hid ((hb2.block _ (lt_of_block HF.out)).trans HF.out)
    have HT2 : Hid (Turned [b] w w2) := Lib.hid (Turned.below hb2)
    clear y0 y1 CG c0 c1 c2 f1 f2 hb2
    obtain ⟨⟨c0, c1, c2⟩, f1, f2⟩ := cells3r HF2.out
    go_wp2_with fail
    go_ret
    exact ⟨rfl, hpl, set3_1 (set3_2 HF2.out), (HT2.out.trans (Turned.setCell (S := [b]) (by simp) _) (by simp)).trans (Turned.setCell (S := [b]) (by simp) _) (by simp)⟩
  · have hq1 := HQ.out
    rw [Sough.roff_er he] at hq1
    cases hq1
    obtain ⟨⟨c0, c1, c2⟩, f1, f2⟩ := cells3r HF.out
    have b2 : ((r.er : Int) != 0) = true := by simpa using he
    clear he
    go_enter Try.func26, Try.ntmps26
    go_wp2_with fail
    go_ret
    exact ⟨rfl, hk, HF.out, Turned.refl _ _⟩

/-- A reader's call, in a law's memory. -/
theorem rd_step {w0 w w' : World} {mb rb ob : Nat} {mc oc : Array Value} {Tm Tr To : TypeId} {s : List UInt8} {r q : Sough.Rd} (hM : Mem w0 [(mb, .cells mc Tm (0, 0)), (rb, .cells (rdC s r) Tr (0, 0)), (ob, .cells oc To (0, 0))] w) (hne : mb ≠ rb ∧ ob ≠ rb ∧ w0.heap.size ≤ rb)
    (hh : w'.heap[rb]? = some (.cells (rdC s q) Tr (0, 0))) (ht : Turned [rb] w w') : Mem w0 [(mb, .cells mc Tm (0, 0)), (rb, .cells (rdC s q) Tr (0, 0)), (ob, .cells oc To (0, 0))] w' :=
  ⟨hM.bel.trans (ht.toBelow (by simpa using hne.2.2) hM.bel.size), fun p hp => by
    simp only [List.mem_cons, List.not_mem_nil, or_false] at hp
    rcases hp with rfl | rfl | rfl
    · exact (ht.block _ (lt_of_block (hM.get 0 rfl)) (by simpa using hne.1)).trans (hM.get 0 rfl)
    · exact hh
    · exact (ht.block _ (lt_of_block (hM.get 2 rfl)) (by simpa using hne.2.1)).trans (hM.get 2 rfl)⟩
theorem rd_set {w0 w : World} {mb rb ob : Nat} {mc oc : Array Value} {Tm Tr To : TypeId} {s : List UInt8} {r : Sough.Rd} (hM : Mem w0 [(mb, .cells mc Tm (0, 0)), (rb, .cells (rdC s r) Tr (0, 0)), (ob, .cells oc To (0, 0))] w) (hne : rb ≠ mb ∧ ob ≠ mb ∧ w0.heap.size ≤ mb) (i : Nat) (v : Value) {mc' : Array Value} (hc : mc.setIfInBounds i v = mc') :
    Mem w0 [(mb, .cells mc' Tm (0, 0)), (rb, .cells (rdC s r) Tr (0, 0)), (ob, .cells oc To (0, 0))] (w.setCell ⟨mb, i, none⟩ v) := by
  subst hc
  exact Mem.set hM hne.2.2 (by simp [hne.1, hne.2.1]) i v

/-- A message's cells, stored one by one. -/
def put13L (W : World) (b : Nat) (cs : Array Value) : World :=
  ((((((((((((W.setCell ⟨b, 0, none⟩ (cs.getD 0 undef)).setCell ⟨b, 1, none⟩ (cs.getD 1 undef)).setCell ⟨b, 2, none⟩ (cs.getD 2 undef)).setCell ⟨b, 3, none⟩ (cs.getD 3 undef)).setCell ⟨b, 4, none⟩ (cs.getD 4 undef)).setCell ⟨b, 5, none⟩ (cs.getD 5 undef)).setCell ⟨b, 6, none⟩ (cs.getD 6 undef)).setCell ⟨b, 7, none⟩ (cs.getD 7 undef)).setCell ⟨b, 8, none⟩ (cs.getD 8 undef)).setCell ⟨b, 9, none⟩ (cs.getD 9 undef)).setCell ⟨b, 10, none⟩ (cs.getD 10 undef)).setCell ⟨b, 11, none⟩ (cs.getD 11 undef)).setCell ⟨b, 12, none⟩ (cs.getD 12 undef)

end Go.Proofs.Ytjoanlhdocoddaa
