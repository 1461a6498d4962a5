/- The walk of the law PoolDoes. -/
import Derived.Test.YtokphknnblpagaaPrAdd4
import Derived.Test.YtokphknnblpagaaPoLaw
import Derived.Test.YtokphknnblpagaaSpArg
namespace Go.Proofs.Ytokphknnblpagaa
open Go.RowKit Go.Maps Go.ChangeMaps Go.Shelf

/-- The law's two pools. -/
structure DS (w W : World) (p r : Nat) (st st' : Sough.Pool) (R : List (Nat × List Sough.Frag)) : Prop where
  ls : LS w W p st R
  ref : RefAt W w.heap.size r st'

section
variable {w W w' : World} {p r : Nat} {st st' : Sough.Pool} {R : List (Nat × List Sough.Frag)}
theorem DS.later (h : DS w W p r st st' R) (hb : Below W.heap.size W w') : DS w w' p r st st' R := ⟨h.ls.later hb, h.ref.later hb⟩
theorem DS.sub {R' : List (Nat × List Sough.Frag)} (h : DS w W p r st st' R) (hs : ∀ x ∈ R', x ∈ R) : DS w W p r st st' R' := ⟨h.ls.sub hs, h.ref⟩
theorem dadd {f : Sough.Frag} {now : Nat} {res : Sough.Pool × List UInt8 × Bool × Nat} {id k : Int} (h : DS w W p r st st' R) (hr : st.add f now = res) (hnow : now < 18446744073709551616) (hid : id = f.id) (hk : k = now) :
    Calls Try.prog 14 #[.pointer (some ⟨p, 0, none⟩), .agg #[.int .u64 id, .int .i64 f.index, .int .i64 f.count, .string ⟨f.part.toArray⟩], .int .u64 k] W fun e w' => e = .returned (.tuple #[.string ⟨res.2.1.toArray⟩, .bool res.2.2.1, .int .i64 res.2.2.2]) ∧ DS w w' p r res.1 st' R := by
  subst hid hk
  obtain ⟨S, h1, h2, h3⟩ := h.ls.pool
  refine (add_as hr W h1 h.ls.ok hnow).mono ?_
  rintro e w' ⟨rfl, S', hP, hs, ht⟩
  refine ⟨rfl, h.ls.turned hP h2 h3 hs ht ?_, h.ref.turned h1 ht⟩
  rw [← hr]
  exact Sough.add_ok h.ls.ok hnow
theorem dexpire {now n : Nat} {k : Int} {res : Sough.Pool} (h : DS w W p r st st' R) (hr : st.expire now = res) (hn : st.l.length - res.l.length = n) (hnow : now < 18446744073709551616) (hk : k = now) :
    Calls Try.prog 11 #[.pointer (some ⟨p, 0, none⟩), .int .u64 k] W fun e w' => e = .returned (.int .i64 n) ∧ DS w w' p r res st' R := by
  subst hk hr hn
  obtain ⟨S, hP0, h2, h3⟩ := h.ls.pool
  have hP1 := hP0
  obtain ⟨mb, A, D, hc, ho, rfl⟩ := hP0
  refine (expire_any W hc ho h.ls.ok hnow).mono ?_
  rintro e w' ⟨rfl, S', hP, hs, ht⟩
  exact ⟨rfl, h.ls.turned hP h2 h3 (fun i hi => .inl (hs i hi)) ht (h.ls.ok.expire now), h.ref.turned hP1 ht⟩
theorem dheld (h : DS w W p r st st' R) : Calls Try.prog 17 #[.pointer (some ⟨p, 0, none⟩)] W fun e w' => e = .returned (.tuple #[.int .i64 st.l.length, .int .i64 st.held]) ∧ DS w w' p r st st' R := by
  obtain ⟨S, h1, h2, h3⟩ := h.ls.pool
  refine (held_any W h1).mono ?_
  rintro e w' ⟨rfl, hb⟩
  exact ⟨rfl, h.later hb⟩
theorem LS.rturned {w W w' : World} {p : Nat} {st : Sough.Pool} (h : LS w W p st []) (ht : RTurned w.heap.size W w') : LS w w' p st [] := by
  obtain ⟨S, h1, h2, h3⟩ := h.pool
  exact ⟨⟨S, h1.rturned ht, h2, fun x hx => absurd hx (by simp)⟩, h.ok, h.bel.trans (ht.toBelow h.bel.size), fun x hx => absurd hx (by simp)⟩
theorem dradd {f : Sough.Frag} {now : Nat} {res : Sough.Pool × List UInt8 × Bool × Nat} {id k : Int} (h : DS w W p r st st' []) (hok : st'.Ok) (hr : st'.add f now = res) (hnow : now < 18446744073709551616) (hid : id = f.id) (hk : k = now) :
    Calls Try.prog 15 #[.pointer (some ⟨r, 0, none⟩), .agg #[.int .u64 id, .int .i64 f.index, .int .i64 f.count, .string ⟨f.part.toArray⟩], .int .u64 k] W fun e w' => e = .returned (.tuple #[.string ⟨res.2.1.toArray⟩, .bool res.2.2.1, .int .i64 res.2.2.2]) ∧ DS w w' p r st res.1 [] := by
  subst hid hk
  refine (radd_as hr W h.ref hok hnow).mono ?_
  rintro e w' ⟨rfl, hR, ht⟩
  exact ⟨rfl, h.ls.rturned ht, hR⟩
theorem drexpire {now n : Nat} {k : Int} {res : Sough.Pool} (h : DS w W p r st st' []) (hok : st'.Ok) (hr : st'.expire now = res) (hn : st'.l.length - res.l.length = n) (hnow : now < 18446744073709551616) (hk : k = now) :
    Calls Try.prog 12 #[.pointer (some ⟨r, 0, none⟩), .int .u64 k] W fun e w' => e = .returned (.int .i64 n) ∧ DS w w' p r st res [] := by
  subst hk hr hn
  obtain ⟨lv, A, hc⟩ := h.ref
  refine (rexpire_any W hc hok hnow).mono ?_
  rintro e w' ⟨rfl, lv', hc', ht⟩
  refine ⟨rfl, h.ls.rturned (RTurned.of ht fun i hi => ?_), ⟨lv', A, hc'⟩⟩
  simp only [List.mem_singleton] at hi
  subst hi
  exact ⟨hc.low, _, _, hc.box, .inl rfl⟩
theorem drheld (h : DS w W p r st st' R) (hok : st'.Ok) : Calls Try.prog 18 #[.pointer (some ⟨r, 0, none⟩)] W fun e w' => e = .returned (.tuple #[.int .i64 st'.l.length, .int .i64 st'.held]) ∧ W = w' := by
  obtain ⟨lv, A, hc⟩ := h.ref
  exact rheld_any W hc hok
/-- The law's own part, in a box. -/
theorem DS.box {f : Sough.Frag} {T : TypeId} (h : DS w W p r st st' []) : DS w (W.alloc (.cells #[.int .u64 f.id, .int .i64 f.index, .int .i64 f.count, .string ⟨f.part.toArray⟩] T)) p r st st' [(W.heap.size, [f])] := ⟨h.ls.box, h.ref.later ((Below.refl _ _).alloc (Nat.le_refl _) _)⟩
theorem DS.cells {g : Nat} {f : Sough.Frag} (h : DS w W p r st st' [(g, [f])]) : W.cell? ⟨g, 0, none⟩ = some (.int .u64 f.id) ∧ W.cell? ⟨g, 1, none⟩ = some (.int .i64 f.index) ∧ W.cell? ⟨g, 2, none⟩ = some (.int .i64 f.count) ∧ W.cell? ⟨g, 3, none⟩ = some (.string ⟨f.part.toArray⟩) := by
  have := (h.ls.rows (g, [f]) (by simp)).1 0 (by simp)
  simpa [Sough.fragAt] using this
end

def DoesR (w : World) (p r n : Nat) (iv : Value) (wr : World) : Prop := ∃ (k : Nat) (st : Sough.Pool), k ≤ n ∧ iv = .int .i64 k ∧ DS w wr p r st st []



set_option maxRecDepth 100000 in
set_option maxHeartbeats 6400000 in
theorem does_any {slots room len cap len2 cap2 n : Nat} {A a : Option Addr} {fs : List Sough.Frag} {zs : List Int} (h1 : 1 ≤ slots) (h2 : slots ≤ 16) (h3 : 1 ≤ room) (h4 : room ≤ 65536) (hn : min len 40 = n) (w : World) (hA : FragArg w A len cap fs) (hz : IsRow .u64 w a len2 cap2 zs) :
    Calls Try.prog 3 #[.agg #[.int .i64 slots, .int .i64 room], .slice A len cap, .slice a len2 cap2] w fun e w' => e = .returned (.bool true) ∧ Below w.heap.size w w' := by
  have HA := Lib.hid hA; have HZ := Lib.hid hz; have HN := Lib.hid hn
  have hlm : len ≤ 9223372036854775807 := by have := hA.hcap; unfold maxLen at this; omega
  have M0 := Lib.hid ((Mem.start w).alloc (.cells #[.int .i64 slots, .int .i64 room] 22))
  clear hA hz hn
  go_enter Try.func3, Try.ntmps3
  go_wp2_with fail
  generalize w.alloc (.cells #[.int .i64 slots, .int .i64 room] 22) = W1 at *
  refine (new_any W1 h1 h2 h3 h4).mono ?_
  rintro e w2 ⟨p, S, rfl, hP, hS, hb2⟩
  have M2 := Lib.hid (M0.out.later hb2)
  have HP := Lib.hid hP
  have HS : Hid (∀ i ∈ S, w.heap.size ≤ i) := Lib.hid fun i hi => by have := hS i hi; have := M0.out.bel.size; omega
  clear hP hS hb2 M0
  have m2 := M2.out.rules; simp only [AllCells, CellsAt, Nat.zero_add] at m2
  go_wp2_with fail
  refine (rnew_any (b0 := w.heap.size) w2 M2.out.bel.size h1 h2 h3 h4).mono ?_
  rintro e w3 ⟨r, rfl, hR, hb3⟩
  have L3 : Hid (DS w w3 p r ⟨slots, room, []⟩ ⟨slots, room, []⟩ []) := Lib.hid ⟨⟨⟨S, HP.out.later hb3, HS.out, fun x hx => absurd hx (by simp)⟩, ⟨h2, h4, Nat.zero_le _, Nat.zero_le _, by simp, fun m hm => absurd hm (by simp)⟩, M2.out.bel.trans (hb3.mono M2.out.bel.size), fun x hx => absurd hx (by simp)⟩, hR⟩
  clear hR hb3 HP HS M2 m2
  go_wp2_with fail
  go_loopw [11] (fun iv wr => DoesR w p r n iv wr) (fun iv _ => n - (intOf iv).toNat)
  case atStart => exact ⟨0, _, Nat.zero_le _, rfl, L3.out⟩
  case round =>
    obtain ⟨k, st, hk, rfl, hL⟩ := hrel
    have LK := Lib.hid hL
    by_cases hlt : k < n
    · have k1 : k < len := by have := HN.out; omega
      have k2 : k < 40 := by have := HN.out; omega
      obtain ⟨b, o, rfl, hf⟩ := HA.out.hat (by omega)
      have hfl : k < fs.length := by rw [HA.out.hlen]; omega
      have HF := Lib.hid hf
      have hpt := HA.out.hpart k (by omega)
      obtain ⟨f, hff⟩ : ∃ f, f = Sough.fragAt fs k := ⟨_, rfl⟩
      obtain ⟨c, hcf⟩ : ∃ c, Sough.cutF f = c := ⟨_, rfl⟩
      rw [← hff] at hpt
      have HFF := Lib.hid hff
      have CG := Lib.hid (fun w => lcut_as hcf hpt w)
      have HFL := Lib.hid hfl
      clear hL hf hpt hff hcf hfl
      have HT : (k < len2 ∧ ∃ t : Nat, t < 18446744073709551616 ∧ ∃ x, a = some x ∧ zs.getD k 0 = (t : Int) ∧ w.cell? (x.add k) = some (.int .u64 t)) ∨ ¬ k < len2 := by
        by_cases h2 : k < len2
        · rcases HZ.out with ⟨_, h0, _, _⟩ | ⟨x, rfl, hl, _, hzl, hc, hw⟩
          · omega
          · have hin : zs.getD k 0 ∈ zs := by rw [List.getD_eq_getElem?_getD, List.getElem?_eq_getElem (by omega)]; simp
            have hb := bounds_u64 (hw _ hin)
            refine .inl ⟨h2, (zs.getD k 0).toNat, by omega, x, rfl, by omega, ?_⟩
            rw [hc k (by omega)]
            congr 2
            omega
        · exact .inr h2
      rcases HT with ⟨h2, t, ht, x, rfl, hzt, hcell⟩ | h2
      · have hcell' := (LK.out.ls.bel.cell (World.block_lt_of_cell? w _ hcell)).trans hcell
        have hlm2 : len2 ≤ 9223372036854775807 := by
          rcases HZ.out with ⟨h, _⟩ | ⟨_, _, hl, hm, _⟩
          · cases h
          · unfold maxLen at hm; omega
        clear hcell hzt
        by_cases h6 : k % 7 = 6
        · have d6 : (((k : Int) % 7) == 6) = true := by simp; omega
          obtain ⟨s1, hs1⟩ : ∃ s1, st.expire t = s1 := ⟨_, rfl⟩
          obtain ⟨x1, hx1⟩ : ∃ x1, st.l.length - s1.l.length = x1 := ⟨_, rfl⟩
          have HS1 := Lib.hid hs1; have HX1 := Lib.hid hx1
          rcases hr : s1.add c t with ⟨q, ts, is, er⟩
          have HR := Lib.hid hr
          clear hs1 hx1 hr h6
          go_wp2_with fail
          refine (dexpire (now := t) LK.out HS1.out HX1.out (by omega) (by omega)).mono ?_
          rintro e w3 ⟨rfl, hL⟩
          have D4 := Lib.hid hL; clear hL
          go_wp2_with fail
          refine (drexpire (now := t) D4.out LK.out.ls.ok HS1.out HX1.out (by omega) (by omega)).mono ?_
          rintro e w4 ⟨rfl, hL⟩
          have D5 := Lib.hid hL; clear hL D4
          have HSOK := Lib.hid D5.out.ls.ok
          clear d6
          have F := HF.out.later D5.out.ls.bel k HFL.out
          rw [← HFF.out] at F
          obtain ⟨c0, c1, c2, c3⟩ := F
          go_wp2_with fail
          refine (CG.out _).mono ?_
          rintro e w5 ⟨rfl, hb5⟩
          have D6 := Lib.hid ((D5.out.later hb5).box (f := c) (T := 35)); clear hb5 D5 c0 c1 c2 c3
          go_wp2_with fail
          generalize w5.alloc (.cells #[.int .u64 c.id, .int .i64 c.index, .int .i64 c.count, .string ⟨c.part.toArray⟩] 35) = W6 at *
          refine (dadd (f := c) (now := t) D6.out HR.out (by omega) rfl (by omega)).mono ?_
          rintro e w7 ⟨rfl, hL⟩
          have D7 := Lib.hid hL; clear hL D6
          simp only at D7 ⊢
          have cc := D7.out.cells
          go_wp2_with fail
          refine (one_as c _).mono ?_
          rintro e w8 ⟨rfl, hb8⟩
          have D8 := Lib.hid ((D7.out.sub (R' := []) (fun x hx => absurd hx (by simp))).later hb8); clear hb8 D7 cc
          go_wp2_with fail
          refine (dradd (f := c) (now := t) D8.out HSOK.out HR.out (by omega) rfl (by omega)).mono ?_
          rintro e w9 ⟨rfl, hL⟩
          have D9 := Lib.hid hL; clear hL D8
          simp only at D9 ⊢
          go_wp2_with fail
          refine (dheld D9.out).mono ?_
          rintro e w10 ⟨rfl, hL⟩
          have D10 := Lib.hid hL; clear hL D9
          go_wp2_with fail
          refine (drheld D10.out D10.out.ls.ok).mono ?_
          rintro e w11 ⟨rfl, rfl⟩
          have HNX : Hid (DoesR w p r n (.int .i64 (k + 1 : Nat)) w10) := Lib.hid ⟨k + 1, q, by omega, rfl, D10.out⟩
          go_wp2_with fail
          go_roundw
          case rel => exact HNX.out
          case measure => simp [intOf]; omega
        · have d6 : (((k : Int) % 7) == 6) = false := by simp; omega
          rcases hr : st.add c t with ⟨q, ts, is, er⟩
          have HR := Lib.hid hr
          have HSOK := Lib.hid LK.out.ls.ok
          have D5 := LK
          clear hr h6
          have F := HF.out.later D5.out.ls.bel k HFL.out
          rw [← HFF.out] at F
          obtain ⟨c0, c1, c2, c3⟩ := F
          go_wp2_with fail
          refine (CG.out _).mono ?_
          rintro e w5 ⟨rfl, hb5⟩
          have D6 := Lib.hid ((D5.out.later hb5).box (f := c) (T := 35)); clear hb5 D5 c0 c1 c2 c3
          go_wp2_with fail
          generalize w5.alloc (.cells #[.int .u64 c.id, .int .i64 c.index, .int .i64 c.count, .string ⟨c.part.toArray⟩] 35) = W6 at *
          refine (dadd (f := c) (now := t) D6.out HR.out (by omega) rfl (by omega)).mono ?_
          rintro e w7 ⟨rfl, hL⟩
          have D7 := Lib.hid hL; clear hL D6
          simp only at D7 ⊢
          have cc := D7.out.cells
          go_wp2_with fail
          refine (one_as c _).mono ?_
          rintro e w8 ⟨rfl, hb8⟩
          have D8 := Lib.hid ((D7.out.sub (R' := []) (fun x hx => absurd hx (by simp))).later hb8); clear hb8 D7 cc
          go_wp2_with fail
          refine (dradd (f := c) (now := t) D8.out HSOK.out HR.out (by omega) rfl (by omega)).mono ?_
          rintro e w9 ⟨rfl, hL⟩
          have D9 := Lib.hid hL; clear hL D8
          simp only at D9 ⊢
          go_wp2_with fail
          refine (dheld D9.out).mono ?_
          rintro e w10 ⟨rfl, hL⟩
          have D10 := Lib.hid hL; clear hL D9
          go_wp2_with fail
          refine (drheld D10.out D10.out.ls.ok).mono ?_
          rintro e w11 ⟨rfl, rfl⟩
          have HNX : Hid (DoesR w p r n (.int .i64 (k + 1 : Nat)) w10) := Lib.hid ⟨k + 1, q, by omega, rfl, D10.out⟩
          go_wp2_with fail
          go_roundw
          case rel => exact HNX.out
          case measure => simp [intOf]; omega
      · have h3 : ¬ k < len2 := h2
        clear h2
        by_cases h6 : k % 7 = 6
        · have d6 : (((k : Int) % 7) == 6) = true := by simp; omega
          obtain ⟨s1, hs1⟩ : ∃ s1, st.expire k = s1 := ⟨_, rfl⟩
          obtain ⟨x1, hx1⟩ : ∃ x1, st.l.length - s1.l.length = x1 := ⟨_, rfl⟩
          have HS1 := Lib.hid hs1; have HX1 := Lib.hid hx1
          rcases hr : s1.add c k with ⟨q, ts, is, er⟩
          have HR := Lib.hid hr
          clear hs1 hx1 hr h6
          go_wp2_with fail
          refine (dexpire (now := k) LK.out HS1.out HX1.out (by omega) (by omega)).mono ?_
          rintro e w3 ⟨rfl, hL⟩
          have D4 := Lib.hid hL; clear hL
          go_wp2_with fail
          refine (drexpire (now := k) D4.out LK.out.ls.ok HS1.out HX1.out (by omega) (by omega)).mono ?_
          rintro e w4 ⟨rfl, hL⟩
          have D5 := Lib.hid hL; clear hL D4
          have HSOK := Lib.hid D5.out.ls.ok
          clear d6
          have F := HF.out.later D5.out.ls.bel k HFL.out
          rw [← HFF.out] at F
          obtain ⟨c0, c1, c2, c3⟩ := F
          go_wp2_with fail
          refine (CG.out _).mono ?_
          rintro e w5 ⟨rfl, hb5⟩
          have D6 := Lib.hid ((D5.out.later hb5).box (f := c) (T := 35)); clear hb5 D5 c0 c1 c2 c3
          go_wp2_with fail
          generalize w5.alloc (.cells #[.int .u64 c.id, .int .i64 c.index, .int .i64 c.count, .string ⟨c.part.toArray⟩] 35) = W6 at *
          refine (dadd (f := c) (now := k) D6.out HR.out (by omega) rfl (by omega)).mono ?_
          rintro e w7 ⟨rfl, hL⟩
          have D7 := Lib.hid hL; clear hL D6
          simp only at D7 ⊢
          have cc := D7.out.cells
          go_wp2_with fail
          refine (one_as c _).mono ?_
          rintro e w8 ⟨rfl, hb8⟩
          have D8 := Lib.hid ((D7.out.sub (R' := []) (fun x hx => absurd hx (by simp))).later hb8); clear hb8 D7 cc
          go_wp2_with fail
          refine (dradd (f := c) (now := k) D8.out HSOK.out HR.out (by omega) rfl (by omega)).mono ?_
          rintro e w9 ⟨rfl, hL⟩
          have D9 := Lib.hid hL; clear hL D8
          simp only at D9 ⊢
          go_wp2_with fail
          refine (dheld D9.out).mono ?_
          rintro e w10 ⟨rfl, hL⟩
          have D10 := Lib.hid hL; clear hL D9
          go_wp2_with fail
          refine (drheld D10.out D10.out.ls.ok).mono ?_
          rintro e w11 ⟨rfl, rfl⟩
          have HNX : Hid (DoesR w p r n (.int .i64 (k + 1 : Nat)) w10) := Lib.hid ⟨k + 1, q, by omega, rfl, D10.out⟩
          go_wp2_with fail
          go_roundw
          case rel => exact HNX.out
          case measure => simp [intOf]; omega
        · have d6 : (((k : Int) % 7) == 6) = false := by simp; omega
          rcases hr : st.add c k with ⟨q, ts, is, er⟩
          have HR := Lib.hid hr
          have HSOK := Lib.hid LK.out.ls.ok
          have D5 := LK
          clear hr h6
          have F := HF.out.later D5.out.ls.bel k HFL.out
          rw [← HFF.out] at F
          obtain ⟨c0, c1, c2, c3⟩ := F
          go_wp2_with fail
          refine (CG.out _).mono ?_
          rintro e w5 ⟨rfl, hb5⟩
          have D6 := Lib.hid ((D5.out.later hb5).box (f := c) (T := 35)); clear hb5 D5 c0 c1 c2 c3
          go_wp2_with fail
          generalize w5.alloc (.cells #[.int .u64 c.id, .int .i64 c.index, .int .i64 c.count, .string ⟨c.part.toArray⟩] 35) = W6 at *
          refine (dadd (f := c) (now := k) D6.out HR.out (by omega) rfl (by omega)).mono ?_
          rintro e w7 ⟨rfl, hL⟩
          have D7 := Lib.hid hL; clear hL D6
          simp only at D7 ⊢
          have cc := D7.out.cells
          go_wp2_with fail
          refine (one_as c _).mono ?_
          rintro e w8 ⟨rfl, hb8⟩
          have D8 := Lib.hid ((D7.out.sub (R' := []) (fun x hx => absurd hx (by simp))).later hb8); clear hb8 D7 cc
          go_wp2_with fail
          refine (dradd (f := c) (now := k) D8.out HSOK.out HR.out (by omega) rfl (by omega)).mono ?_
          rintro e w9 ⟨rfl, hL⟩
          have D9 := Lib.hid hL; clear hL D8
          simp only at D9 ⊢
          go_wp2_with fail
          refine (dheld D9.out).mono ?_
          rintro e w10 ⟨rfl, hL⟩
          have D10 := Lib.hid hL; clear hL D9
          go_wp2_with fail
          refine (drheld D10.out D10.out.ls.ok).mono ?_
          rintro e w11 ⟨rfl, rfl⟩
          have HNX : Hid (DoesR w p r n (.int .i64 (k + 1 : Nat)) w10) := Lib.hid ⟨k + 1, q, by omega, rfl, D10.out⟩
          go_wp2_with fail
          go_roundw
          case rel => exact HNX.out
          case measure => simp [intOf]; omega
    · have hkn : k = n := by omega
      have hge : ((k < len ∧ 40 ≤ k) ∨ len ≤ k) := by have := HN.out; omega
      clear hL hlt hkn
      rcases hge with ⟨g1, g2⟩ | g1
      · go_wp2_with fail
        refine (fixed_walk _).mono ?_
        rintro e w10 ⟨rfl, hb⟩
        go_wp2_with fail
        go_ret
        exact ⟨rfl, LK.out.ls.bel.trans (hb.mono LK.out.ls.bel.size)⟩
      · go_wp2_with fail
        refine (fixed_walk _).mono ?_
        rintro e w10 ⟨rfl, hb⟩
        go_wp2_with fail
        go_ret
        exact ⟨rfl, LK.out.ls.bel.trans (hb.mono LK.out.ls.bel.size)⟩

set_option maxRecDepth 100000 in
set_option maxHeartbeats 1600000 in
theorem does_bad {slots room : Int} {len cap len2 cap2 : Nat} {A a : Option Addr} (h : slots < 1 ∨ 16 < slots ∨ room < 1 ∨ 65536 < room) (w : World) :
    Calls Try.prog 3 #[.agg #[.int .i64 slots, .int .i64 room], .slice A len cap, .slice a len2 cap2] w fun e w' => e = .returned (.bool true) ∧ Below w.heap.size w w' := by
  have M0 := Lib.hid ((Mem.start w).alloc (.cells #[.int .i64 slots, .int .i64 room] 22))
  have HH := Lib.hid h
  clear h
  go_enter Try.func3, Try.ntmps3
  go_wp2_with fail
  generalize w.alloc (.cells #[.int .i64 slots, .int .i64 room] 22) = W1 at *
  have m2 := M0.out.rules; simp only [AllCells, CellsAt, Nat.zero_add] at m2
  refine (new_bad W1 HH.out).mono ?_
  rintro e w2 ⟨rfl, rfl⟩
  go_wp2_with fail
  refine (rnew_bad _ HH.out).mono ?_
  rintro e w3 ⟨rfl, rfl⟩
  go_wp2_with fail
  go_loopw [11] (fun iv wr => iv = .int .i64 0 ∧ wr = W1) (fun _ _ => 0)
  case atStart => exact ⟨rfl, rfl⟩
  case round =>
    obtain ⟨rfl, rfl⟩ := hrel
    go_wp2_with fail
    refine (fixed_walk _).mono ?_
    rintro e w10 ⟨rfl, hb⟩
    go_wp2_with fail
    go_ret
    exact ⟨rfl, M0.out.bel.trans (hb.mono M0.out.bel.size)⟩

theorem poolDoes_walk (p q : Int) (A : Option Addr) (len cap : Nat) (fs : List Sough.Frag) (a : Option Addr) (len2 cap2 : Nat) (zs : List Int) (w : World) (hA : FragArg w A len cap fs) (hz : IsRow .u64 w a len2 cap2 zs) :
    Calls Try.prog 3 #[.agg #[.int .i64 p, .int .i64 q], .slice A len cap, .slice a len2 cap2] w fun e w' => e = .returned (.bool true) ∧ Below w.heap.size w w' := by
  by_cases h : p < 1 ∨ 16 < p ∨ q < 1 ∨ 65536 < q
  · exact does_bad h w
  · obtain ⟨p0, rfl⟩ := Int.eq_ofNat_of_zero_le (show 0 ≤ p by omega)
    obtain ⟨q0, rfl⟩ := Int.eq_ofNat_of_zero_le (show 0 ≤ q by omega)
    exact does_any (by omega) (by omega) (by omega) (by omega) rfl w hA hz

end Go.Proofs.Ytokphknnblpagaa
