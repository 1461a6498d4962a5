/- Plain law and walk of HandStranger. (Printed by wip/tools/mkstranger.py.) -/
import Derived.Test.YtlfgempjjoclbaaLHdRen
namespace Sough
theorem beginR_ren {ρ : List UInt8 → List UInt8} (h : Ren ρ) (st : Store) {me : Pair} {pr : Peer} {m : Msg} {n n' : Nat} {d0 d1 d2 : Int} (h1 : ρ sough = sough) (h2 : ρ m.offer = m.offer) (h3 : ρ (slotText (m.v 4)) = slotText (m.v 4)) (h4 : ρ (put n) = put n') :
    beginR (sR ρ st) me pr m n' d0 d1 d2 = (sR ρ (beginR st me pr m n d0 d1 d2).1, (beginR st me pr m n d0 d1 d2).2) := by
  unfold beginR
  rw [beginT_ren h st h1 h2 h3 h4]
  rfl
theorem openR_ren {ρ : List UInt8 → List UInt8} {θ : Nat → Nat} (h : Ren ρ) (hs : Stamps ρ θ) (st : Store) {me : Pair} {peers : List Peer} {text : List UInt8} {m : Msg} (h1 : ρ sough = sough) (h2 : ρ m.offer = m.offer) (h3 : ρ (slotText (m.v 4)) = slotText (m.v 4)) :
    (openR (sR ρ st) me peers text m).1 = sR ρ (openR st me peers text m).1 ∧ (openR (sR ρ st) me peers text m).2.2 = (openR st me peers text m).2.2 ∧ ((openR st me peers text m).2.2 ≠ 0 → (openR (sR ρ st) me peers text m).2.1 = zeroO) ∧
    ((openR st me peers text m).2.2 = 0 → (openR st me peers text m).2.1 ≠ zeroO → (openR (sR ρ st) me peers text m).2.1 = ⟨(openR st me peers text m).2.1.y, (openR st me peers text m).2.1.peer, (openR st me peers text m).2.1.version, θ (openR st me peers text m).2.1.stamp, (openR st me peers text m).2.1.e, (openR st me peers text m).2.1.ek, (openR st me peers text m).2.1.pub⟩) := by
  unfold openR
  rw [openedT_ren h hs st h1 h2 h3]
  generalize openedT st me peers text m = r
  obtain ⟨s, r⟩ := r
  cases r with
  | error e => exact ⟨rfl, rfl, fun _ => rfl, fun _ hn => absurd rfl hn⟩
  | ok o => exact ⟨rfl, rfl, fun hn => absurd rfl hn, fun _ _ => rfl⟩
theorem sR_two {ρ : List UInt8 → List UInt8} (h : Ren ρ) : sR ρ twoS = twoS := by
  have h1 : ∀ t ∈ twoS.l, t.s = [] := by decide +kernel
  have h2 : twoS.l.map (tR ρ) = twoS.l.map id := List.map_congr_left fun t ht => tR_nil h (h1 t ht)
  unfold sR
  rw [h2, List.map_id]
theorem sough_put {n : Nat} (hn : n < 18446744073709551616) : sough ≠ put n := by
  intro e
  have h1 := get_of_put hn
  rw [← e] at h1
  have h2 : get sough 0 = (115, 1, 0) := by decide +kernel
  rw [h2] at h1
  have := congrArg (fun x => x.2.1) h1
  simp [sough] at this
theorem put_len10 (n : Nat) : put n ≠ [] ∧ (put n).length ≤ 1000 := by
  have := put_len n
  refine ⟨fun e => ?_, by omega⟩
  rw [e] at this; simp at this
theorem slot_put (k : Nat) (hk : k < 2) : slotText (k : Int) = put (48 + k) := by
  match k, hk with
  | 0, _ => decide +kernel
  | 1, _ => decide +kernel

def sg1 (k n : Nat) := beginR twoS me0 peer0 (reqM 7 [1] k) n 7 8 9
def sg2 (k n : Nat) := openR (sg1 k n).1 me1 [] [1] (sg1 k n).2.1
def sg3 (k n : Nat) := openR (sg2 k n).1 me1 [peer0] [1] (sg1 k n).2.1
def sg4 (k n : Nat) := openR (sg3 k n).1 me0 [peer0, peer1] [1] (sg1 k n).2.1
def sg5 (k n : Nat) := openR (sg4 k n).1 ⟨1, 4⟩ [peer1] [1] (sg1 k n).2.1
def sg6 (k n : Nat) := openR (sg5 k n).1 me1 [peer0, peer1, peer1] [1] (sg1 k n).2.1
def sgP (k n : Nat) : Prop := (sg1 k n).2.2.2 = 0 ∧ (sg2 k n).2.2 = 5 ∧ (sg3 k n).2.2 = 5 ∧ (sg4 k n).2.2 = 10 ∧ (sg4 k n).2.1 = zeroO ∧ (sg5 k n).2.2 = 9 ∧ (sg5 k n).2.1 = zeroO ∧ (sg6 k n).2.2 = 0 ∧ (sg6 k n).2.1.peer = 1 ∧ (sg6 k n).2.1.stamp = n
instance {k n : Nat} : Decidable (sgP k n) := by unfold sgP; infer_instance
set_option maxRecDepth 100000 in
theorem sg_some : ∀ k < 2, ∀ n ∈ [1, 48, 49, 300], sgP k n := by decide +kernel
set_option maxRecDepth 100000 in
theorem sg_offer : ∀ k < 2, (sg1 k 300).2.1.offer = [1] ∧ ((sg1 k 300).2.1.v 4 = 0 ∨ (sg1 k 300).2.1.v 4 = 1) := by decide +kernel
theorem sg_all {k n : Nat} (hk : k < 2) (hn : n < 18446744073709551616) : sgP k n := by
  by_cases hs : n = 1 ∨ n = 48 ∨ n = 49
  · refine sg_some k hk n ?_
    rcases hs with rfl | rfl | rfl <;> simp
  have h3 : (300 : Nat) < 18446744073709551616 := by decide
  obtain ⟨ρ, hρ⟩ : ∃ ρ, ρ = swp (put 300) (put n) := ⟨_, rfl⟩
  have R : Ren ρ := hρ ▸ swp_ren (put_len10 300).1 (put_len10 n).1 (put_len10 300).2 (put_len10 n).2
  have T : Stamps ρ (swn 300 n) := hρ ▸ swp_stamps h3 hn
  have fs : ρ sough = sough := hρ ▸ swp_fix (sough_put h3) (sough_put hn)
  have fp : ∀ c, c < 300 → c ≠ n → ρ (put c) = put c := fun c hc hcn => hρ ▸ swp_fix (fun e => by have := put_same (by omega) h3 e; omega) (fun e => hcn (put_same (by omega) hn e))
  have f1 : ρ [1] = [1] := fp 1 (by omega) (by omega)
  have fsl : ρ (slotText (k : Int)) = slotText (k : Int) := by rw [slot_put k hk]; exact fp _ (by omega) (by omega)
  have fn : ρ (put 300) = put n := by rw [hρ]; unfold swp; simp
  obtain ⟨p1, p2, p3, p4, p5, p6, p7, p8, p9, p10⟩ := sg_some k hk 300 (by simp)
  have E1 : sg1 k n = (sR ρ (sg1 k 300).1, (sg1 k 300).2) := by
    have := beginR_ren R twoS (me := me0) (pr := peer0) (m := reqM 7 [1] k) (d0 := 7) (d1 := 8) (d2 := 9) fs f1 fsl fn
    rw [sR_two R] at this
    exact this
  obtain ⟨ho, hv⟩ := sg_offer k hk
  have fm : ρ (sg1 k 300).2.1.offer = (sg1 k 300).2.1.offer := by rw [ho]; exact f1
  have fv : ρ (slotText ((sg1 k 300).2.1.v 4)) = slotText ((sg1 k 300).2.1.v 4) := by
    rcases hv with e | e
    · rw [e]; exact fp 48 (by omega) (by omega)
    · rw [e]; exact fp 49 (by omega) (by omega)
  have OP := fun (st : Store) (me : Pair) (l : List Peer) => openR_ren R T st (me := me) (peers := l) (text := [1]) fs fm fv
  have e2 := OP (sg1 k 300).1 me1 []
  have E2 : (sg2 k n).1 = sR ρ (sg2 k 300).1 ∧ (sg2 k n).2.2 = (sg2 k 300).2.2 := by
    unfold sg2; rw [E1]; exact ⟨e2.1, e2.2.1⟩
  have e3 := OP (sg2 k 300).1 me1 [peer0]
  have E3 : (sg3 k n).1 = sR ρ (sg3 k 300).1 ∧ (sg3 k n).2.2 = (sg3 k 300).2.2 := by
    unfold sg3; rw [E1, E2.1]; exact ⟨e3.1, e3.2.1⟩
  have e4 := OP (sg3 k 300).1 me0 [peer0, peer1]
  have E4 : (sg4 k n).1 = sR ρ (sg4 k 300).1 ∧ (sg4 k n).2.2 = (sg4 k 300).2.2 ∧ (sg4 k n).2.1 = zeroO := by
    unfold sg4; rw [E1, E3.1]; exact ⟨e4.1, e4.2.1, e4.2.2.1 (by show (sg4 k 300).2.2 ≠ 0; rw [p4]; decide)⟩
  have e5 := OP (sg4 k 300).1 ⟨1, 4⟩ [peer1]
  have E5 : (sg5 k n).1 = sR ρ (sg5 k 300).1 ∧ (sg5 k n).2.2 = (sg5 k 300).2.2 ∧ (sg5 k n).2.1 = zeroO := by
    unfold sg5; rw [E1, E4.1]; exact ⟨e5.1, e5.2.1, e5.2.2.1 (by show (sg5 k 300).2.2 ≠ 0; rw [p6]; decide)⟩
  have e6 := OP (sg5 k 300).1 me1 [peer0, peer1, peer1]
  have hz : (sg6 k 300).2.1 ≠ zeroO := fun e => by rw [e] at p9; revert p9; decide
  have E6 : (sg6 k n).2.2 = (sg6 k 300).2.2 ∧ (sg6 k n).2.1.peer = (sg6 k 300).2.1.peer ∧ (sg6 k n).2.1.stamp = swn 300 n (sg6 k 300).2.1.stamp := by
    have := e6.2.2.2 p8 hz
    have g : (sg6 k n) = openR (sR ρ (sg5 k 300).1) me1 [peer0, peer1, peer1] [1] (sg1 k 300).2.1 := by unfold sg6; rw [E1, E5.1]
    rw [g]
    exact ⟨e6.2.1, by rw [this]; rfl, by rw [this]; rfl⟩
  refine ⟨by rw [E1]; exact p1, by rw [E2.2]; exact p2, by rw [E3.2]; exact p3, by rw [E4.2.1]; exact p4, E4.2.2, by rw [E5.2.1]; exact p6, E5.2.2, by rw [E6.1]; exact p8, by rw [E6.2.1]; exact p9, ?_⟩
  rw [E6.2.2, p10]
  unfold swn
  simp
end Sough
namespace Go.Proofs.Ytlfgempjjoclbaa
open Go.RowKit Go.Maps Go.ChangeMaps

set_option maxRecDepth 100000 in
set_option maxHeartbeats 6400000 in
theorem stranger_kn {a k n : Nat} (ha : (a : Int) % 2 = (k : Int)) (hk : k < 2) (hn : n < 18446744073709551616) (ha2 : a < 256) (W : World) :
    Calls Try.prog 4 #[.int .u8 a, .int .u64 n] W fun e w' => e = .returned (.bool true) ∧ Below W.heap.size W w' := by
  have HFX := Lib.hid (Sough.sg_all hk hn)
  have HN := Lib.hid hn
  have HKI := Lib.hid (show Sough.Int64 (k : Int) from ⟨by omega, by omega⟩)
  clear hk hn
  go_enter Try.func4, Try.ntmps4
  go_wp2_with fail
  refine (two_any _).mono ?_
  rintro e w1 ⟨p, rfl, g⟩
  have F1 := Lib.hid g
  have F2 := Lib.hid (F1.out.alloc (.cells #[.int .i64 1, .int .i64 2, .int .i64 3, .int .i64 4] 25))
  try simp only [World.size_alloc, size_setCell] at F2
  have F3 := Lib.hid (F2.out.alloc (.cells #[.int .i64 17, .int .i64 18, .int .i64 5, .int .i64 6, .int .i64 15, .int .i64 16, .int .i64 5, .int .i64 6] 29))
  try simp only [World.size_alloc, size_setCell] at F3
  clear g
  obtain ⟨s1, m1, q1, e1, h1⟩ : ∃ s1 m1 q1 e1, Sough.sg1 k n = (s1, m1, q1, e1) := ⟨_, _, _, _, rfl⟩
  have H1 := Lib.hid h1
  clear h1
  have HC := (begin_at (me := Sough.me0) (pr := Sough.peer0) (m := Sough.reqM 7 [1] k) (stamp := n) (d0 := 7) (d1 := 8) (d2 := 9) F3.out (Sough.reqM_wf (by decide) HKI.out (by decide)) HN.out ⟨⟨by decide, by decide⟩, ⟨by decide, by decide⟩⟩ ⟨⟨by decide, by decide⟩, ⟨by decide, by decide⟩, ⟨by decide, by decide⟩, ⟨by decide, by decide⟩⟩ ⟨⟨by decide, by decide⟩, ⟨by decide, by decide⟩, ⟨by decide, by decide⟩⟩ (by have h := H1.out; unfold Sough.sg1 at h; exact h) : (Calls Try.prog 12 #[.pointer (some ⟨p, 0, none⟩), .agg #[.int .i64 1, .int .i64 2], .agg #[.int .i64 17, .int .i64 18, .int .i64 5, .int .i64 6], .agg #[.int .i64 0, .int .u64 7, .int .u64 0, .string ⟨#[1]⟩, .int .i64 (k : Int), .int .i64 0, .int .i64 0, .int .i64 0, .int .i64 0, .int .i64 0, .int .i64 0, .int .u64 0, .int .u64 0], .int .u64 (n : Int), .agg #[.int .i64 7, .int .i64 8, .int .i64 9]] _ _) ∧ m1.Wf ∧ q1.Wf)
  obtain ⟨HC, wm1, wq1⟩ := HC
  have WM1 := Lib.hid wm1
  have WQ1 := Lib.hid wq1
  clear wm1 wq1
  have HC := Lib.hid HC
  have r0 := F1.out.mem.rules; simp only [AllCells, CellsAt, Nat.zero_add, Nat.reduceAdd, talkC] at r0
  have r1 := F2.out.mem.rules; simp only [AllCells, CellsAt, Nat.zero_add, Nat.reduceAdd, talkC] at r1
  have r2 := F3.out.mem.rules; simp only [AllCells, CellsAt, Nat.zero_add, Nat.reduceAdd, talkC] at r2
  go_wp2_with fail
  clear r0 r1 r2
  refine HC.out.mono ?_
  rintro e w2 ⟨rfl, g⟩
  clear HC
  clear F1 F2
  have F4 := Lib.hid g
  have F5 := Lib.hid (F4.out.alloc (.cells #[.int .i64 (m1.v 0), .int .u64 (m1.v 1), .int .u64 (m1.v 2), .string ⟨m1.offer.toArray⟩, .int .i64 (m1.v 4), .int .i64 (m1.v 5), .int .i64 (m1.v 6), .int .i64 (m1.v 7), .int .i64 (m1.v 8), .int .i64 (m1.v 9), .int .i64 (m1.v 10), .int .u64 (m1.v 11), .int .u64 (m1.v 12)] 34))
  try simp only [World.size_alloc, size_setCell] at F5
  have F6 := Lib.hid (F5.out.alloc (.cells #[.int .i64 q1.y.ck, .int .i64 q1.y.k, .int .i64 q1.y.h, .int .u64 q1.y.n, .int .i64 q1.e, .int .i64 q1.ek, .string ⟨q1.offer.toArray⟩] 38))
  try simp only [World.size_alloc, size_setCell] at F6
  clear g
  clear F3
  obtain ⟨s2, o2, e2, h2⟩ : ∃ s2 o2 e2, Sough.sg2 k n = (s2, o2, e2) := ⟨_, _, _, rfl⟩
  have H2 := Lib.hid h2
  clear h2
  have HC := (open_at (me := Sough.me1) (peers := []) (text := [1]) (m := m1) F6.out ⟨⟨by decide, by decide⟩, ⟨by decide, by decide⟩⟩ (.inl ⟨rfl, rfl⟩) (by intro q hq; cases hq) (by decide) WM1.out (by have h := H2.out; unfold Sough.sg2 at h; simp only [H1.out] at h; exact h) : (Calls Try.prog 13 #[.pointer (some ⟨p, 0, none⟩), .agg #[.int .i64 3, .int .i64 4], .slice none 0 0, .string ⟨#[1]⟩, .agg #[.int .i64 (m1.v 0), .int .u64 (m1.v 1), .int .u64 (m1.v 2), .string ⟨m1.offer.toArray⟩, .int .i64 (m1.v 4), .int .i64 (m1.v 5), .int .i64 (m1.v 6), .int .i64 (m1.v 7), .int .i64 (m1.v 8), .int .i64 (m1.v 9), .int .i64 (m1.v 10), .int .u64 (m1.v 11), .int .u64 (m1.v 12)]] _ _) ∧ o2.Wf)
  obtain ⟨HC, wo2⟩ := HC
  have WO2 := Lib.hid wo2
  clear wo2
  have HC := Lib.hid HC
  have r0 := F4.out.mem.rules; simp only [AllCells, CellsAt, Nat.zero_add, Nat.reduceAdd, talkC] at r0
  have r1 := F5.out.mem.rules; simp only [AllCells, CellsAt, Nat.zero_add, Nat.reduceAdd, talkC] at r1
  have r2 := F6.out.mem.rules; simp only [AllCells, CellsAt, Nat.zero_add, Nat.reduceAdd, talkC] at r2
  go_wp2_with fail
  clear r0 r1 r2
  refine HC.out.mono ?_
  rintro e w3 ⟨rfl, g⟩
  clear HC
  clear F4 F5
  have F7 := Lib.hid g
  have F8 := Lib.hid (F7.out.alloc (.cells #[.int .i64 o2.y.ck, .int .i64 o2.y.k, .int .i64 o2.y.h, .int .u64 o2.y.n, .int .i64 o2.peer, .int .i64 o2.version, .int .u64 o2.stamp, .int .i64 o2.e, .int .i64 o2.ek, .int .i64 o2.pub] 44))
  try simp only [World.size_alloc, size_setCell] at F8
  clear g
  clear F6
  have F9 := Lib.hid (F8.out.alloc (.cells #[.int .i64 17, .int .i64 18, .int .i64 5, .int .i64 6] 28))
  try simp only [World.size_alloc, size_setCell] at F9
  obtain ⟨s3, o3, e3, h3⟩ : ∃ s3 o3 e3, Sough.sg3 k n = (s3, o3, e3) := ⟨_, _, _, rfl⟩
  have H3 := Lib.hid h3
  clear h3
  have HC := (open_at (me := Sough.me1) (peers := [Sough.peer0]) (text := [1]) (m := m1) F9.out ⟨⟨by decide, by decide⟩, ⟨by decide, by decide⟩⟩ (.inr ⟨_, 1, _, rfl, Nat.le_refl _, by omega, List.mem_cons_self ..⟩) (by intro q hq; simp only [List.mem_cons, List.not_mem_nil, or_false] at hq; subst hq; exact ⟨⟨by decide, by decide⟩, ⟨by decide, by decide⟩⟩) (by decide) WM1.out (by have h := H3.out; unfold Sough.sg3 at h; simp only [H1.out, H2.out] at h; exact h) : (Calls Try.prog 13 #[.pointer (some ⟨p, 0, none⟩), .agg #[.int .i64 3, .int .i64 4], .slice (some ⟨w3.heap.size + 1, 0, none⟩) 1 1, .string ⟨#[1]⟩, .agg #[.int .i64 (m1.v 0), .int .u64 (m1.v 1), .int .u64 (m1.v 2), .string ⟨m1.offer.toArray⟩, .int .i64 (m1.v 4), .int .i64 (m1.v 5), .int .i64 (m1.v 6), .int .i64 (m1.v 7), .int .i64 (m1.v 8), .int .i64 (m1.v 9), .int .i64 (m1.v 10), .int .u64 (m1.v 11), .int .u64 (m1.v 12)]] _ _) ∧ o3.Wf)
  obtain ⟨HC, wo3⟩ := HC
  have WO3 := Lib.hid wo3
  clear wo3
  have HC := Lib.hid HC
  have r0 := F7.out.mem.rules; simp only [AllCells, CellsAt, Nat.zero_add, Nat.reduceAdd, talkC] at r0
  have r1 := F8.out.mem.rules; simp only [AllCells, CellsAt, Nat.zero_add, Nat.reduceAdd, talkC] at r1
  have r2 := F9.out.mem.rules; simp only [AllCells, CellsAt, Nat.zero_add, Nat.reduceAdd, talkC] at r2
  go_wp2_with fail
  clear r0 r1 r2
  refine HC.out.mono ?_
  rintro e w4 ⟨rfl, g⟩
  clear HC
  clear F7 F8
  have F10 := Lib.hid g
  have F11 := Lib.hid (F10.out.alloc (.cells #[.int .i64 o3.y.ck, .int .i64 o3.y.k, .int .i64 o3.y.h, .int .u64 o3.y.n, .int .i64 o3.peer, .int .i64 o3.version, .int .u64 o3.stamp, .int .i64 o3.e, .int .i64 o3.ek, .int .i64 o3.pub] 44))
  try simp only [World.size_alloc, size_setCell] at F11
  clear g
  clear F9
  have F12 := Lib.hid (F11.out.alloc (.cells #[.int .i64 17, .int .i64 18, .int .i64 5, .int .i64 6, .int .i64 15, .int .i64 16, .int .i64 5, .int .i64 6] 28))
  try simp only [World.size_alloc, size_setCell] at F12
  obtain ⟨s4, o4, e4, h4⟩ : ∃ s4 o4 e4, Sough.sg4 k n = (s4, o4, e4) := ⟨_, _, _, rfl⟩
  have H4 := Lib.hid h4
  clear h4
  have HC := (open_at (me := Sough.me0) (peers := [Sough.peer0, Sough.peer1]) (text := [1]) (m := m1) F12.out ⟨⟨by decide, by decide⟩, ⟨by decide, by decide⟩⟩ (.inr ⟨_, 2, _, rfl, Nat.le_refl _, by omega, List.mem_cons_self ..⟩) (by intro q hq; simp only [List.mem_cons, List.not_mem_nil, or_false] at hq; rcases hq with rfl | rfl <;> exact ⟨⟨by decide, by decide⟩, ⟨by decide, by decide⟩⟩) (by decide) WM1.out (by have h := H4.out; unfold Sough.sg4 at h; simp only [H1.out, H2.out, H3.out] at h; exact h) : (Calls Try.prog 13 #[.pointer (some ⟨p, 0, none⟩), .agg #[.int .i64 1, .int .i64 2], .slice (some ⟨w4.heap.size + 1, 0, none⟩) 2 2, .string ⟨#[1]⟩, .agg #[.int .i64 (m1.v 0), .int .u64 (m1.v 1), .int .u64 (m1.v 2), .string ⟨m1.offer.toArray⟩, .int .i64 (m1.v 4), .int .i64 (m1.v 5), .int .i64 (m1.v 6), .int .i64 (m1.v 7), .int .i64 (m1.v 8), .int .i64 (m1.v 9), .int .i64 (m1.v 10), .int .u64 (m1.v 11), .int .u64 (m1.v 12)]] _ _) ∧ o4.Wf)
  obtain ⟨HC, wo4⟩ := HC
  have WO4 := Lib.hid wo4
  clear wo4
  have HC := Lib.hid HC
  have r0 := F10.out.mem.rules; simp only [AllCells, CellsAt, Nat.zero_add, Nat.reduceAdd, talkC] at r0
  have r1 := F11.out.mem.rules; simp only [AllCells, CellsAt, Nat.zero_add, Nat.reduceAdd, talkC] at r1
  have r2 := F12.out.mem.rules; simp only [AllCells, CellsAt, Nat.zero_add, Nat.reduceAdd, talkC] at r2
  go_wp2_with fail
  clear r0 r1 r2
  refine HC.out.mono ?_
  rintro e w5 ⟨rfl, g⟩
  clear HC
  clear F10 F11
  have F13 := Lib.hid g
  have F14 := Lib.hid (F13.out.alloc (.cells #[.int .i64 o4.y.ck, .int .i64 o4.y.k, .int .i64 o4.y.h, .int .u64 o4.y.n, .int .i64 o4.peer, .int .i64 o4.version, .int .u64 o4.stamp, .int .i64 o4.e, .int .i64 o4.ek, .int .i64 o4.pub] 44))
  try simp only [World.size_alloc, size_setCell] at F14
  clear g
  clear F12
  have F15 := Lib.hid (F14.out.alloc (.cells #[.int .i64 15, .int .i64 16, .int .i64 5, .int .i64 6] 28))
  try simp only [World.size_alloc, size_setCell] at F15
  obtain ⟨s5, o5, e5, h5⟩ : ∃ s5 o5 e5, Sough.sg5 k n = (s5, o5, e5) := ⟨_, _, _, rfl⟩
  have H5 := Lib.hid h5
  clear h5
  have HC := (open_at (me := ⟨1, 4⟩) (peers := [Sough.peer1]) (text := [1]) (m := m1) F15.out ⟨⟨by decide, by decide⟩, ⟨by decide, by decide⟩⟩ (.inr ⟨_, 1, _, rfl, Nat.le_refl _, by omega, List.mem_cons_self ..⟩) (by intro q hq; simp only [List.mem_cons, List.not_mem_nil, or_false] at hq; subst hq; exact ⟨⟨by decide, by decide⟩, ⟨by decide, by decide⟩⟩) (by decide) WM1.out (by have h := H5.out; unfold Sough.sg5 at h; simp only [H1.out, H2.out, H3.out, H4.out] at h; exact h) : (Calls Try.prog 13 #[.pointer (some ⟨p, 0, none⟩), .agg #[.int .i64 1, .int .i64 4], .slice (some ⟨w5.heap.size + 1, 0, none⟩) 1 1, .string ⟨#[1]⟩, .agg #[.int .i64 (m1.v 0), .int .u64 (m1.v 1), .int .u64 (m1.v 2), .string ⟨m1.offer.toArray⟩, .int .i64 (m1.v 4), .int .i64 (m1.v 5), .int .i64 (m1.v 6), .int .i64 (m1.v 7), .int .i64 (m1.v 8), .int .i64 (m1.v 9), .int .i64 (m1.v 10), .int .u64 (m1.v 11), .int .u64 (m1.v 12)]] _ _) ∧ o5.Wf)
  obtain ⟨HC, wo5⟩ := HC
  have WO5 := Lib.hid wo5
  clear wo5
  have HC := Lib.hid HC
  have r0 := F13.out.mem.rules; simp only [AllCells, CellsAt, Nat.zero_add, Nat.reduceAdd, talkC] at r0
  have r1 := F14.out.mem.rules; simp only [AllCells, CellsAt, Nat.zero_add, Nat.reduceAdd, talkC] at r1
  have r2 := F15.out.mem.rules; simp only [AllCells, CellsAt, Nat.zero_add, Nat.reduceAdd, talkC] at r2
  go_wp2_with fail
  clear r0 r1 r2
  refine HC.out.mono ?_
  rintro e w6 ⟨rfl, g⟩
  clear HC
  clear F13 F14
  have F16 := Lib.hid g
  have F17 := Lib.hid (F16.out.alloc (.cells #[.int .i64 o5.y.ck, .int .i64 o5.y.k, .int .i64 o5.y.h, .int .u64 o5.y.n, .int .i64 o5.peer, .int .i64 o5.version, .int .u64 o5.stamp, .int .i64 o5.e, .int .i64 o5.ek, .int .i64 o5.pub] 44))
  try simp only [World.size_alloc, size_setCell] at F17
  clear g
  clear F15
  have F18 := Lib.hid (F17.out.alloc (.cells #[.int .i64 17, .int .i64 18, .int .i64 5, .int .i64 6, .int .i64 15, .int .i64 16, .int .i64 5, .int .i64 6, .int .i64 15, .int .i64 16, .int .i64 5, .int .i64 6] 28))
  try simp only [World.size_alloc, size_setCell] at F18
  obtain ⟨s6, o6, e6, h6⟩ : ∃ s6 o6 e6, Sough.sg6 k n = (s6, o6, e6) := ⟨_, _, _, rfl⟩
  have H6 := Lib.hid h6
  clear h6
  have HC := (open_at (me := Sough.me1) (peers := [Sough.peer0, Sough.peer1, Sough.peer1]) (text := [1]) (m := m1) F18.out ⟨⟨by decide, by decide⟩, ⟨by decide, by decide⟩⟩ (.inr ⟨_, 3, _, rfl, Nat.le_refl _, by omega, List.mem_cons_self ..⟩) (by intro q hq; simp only [List.mem_cons, List.not_mem_nil, or_false] at hq; rcases hq with rfl | rfl | rfl <;> exact ⟨⟨by decide, by decide⟩, ⟨by decide, by decide⟩⟩) (by decide) WM1.out (by have h := H6.out; unfold Sough.sg6 at h; simp only [H1.out, H2.out, H3.out, H4.out, H5.out] at h; exact h) : (Calls Try.prog 13 #[.pointer (some ⟨p, 0, none⟩), .agg #[.int .i64 3, .int .i64 4], .slice (some ⟨w6.heap.size + 1, 0, none⟩) 3 3, .string ⟨#[1]⟩, .agg #[.int .i64 (m1.v 0), .int .u64 (m1.v 1), .int .u64 (m1.v 2), .string ⟨m1.offer.toArray⟩, .int .i64 (m1.v 4), .int .i64 (m1.v 5), .int .i64 (m1.v 6), .int .i64 (m1.v 7), .int .i64 (m1.v 8), .int .i64 (m1.v 9), .int .i64 (m1.v 10), .int .u64 (m1.v 11), .int .u64 (m1.v 12)]] _ _) ∧ o6.Wf)
  obtain ⟨HC, wo6⟩ := HC
  have WO6 := Lib.hid wo6
  clear wo6
  have HC := Lib.hid HC
  have r0 := F16.out.mem.rules; simp only [AllCells, CellsAt, Nat.zero_add, Nat.reduceAdd, talkC] at r0
  have r1 := F17.out.mem.rules; simp only [AllCells, CellsAt, Nat.zero_add, Nat.reduceAdd, talkC] at r1
  have r2 := F18.out.mem.rules; simp only [AllCells, CellsAt, Nat.zero_add, Nat.reduceAdd, talkC] at r2
  go_wp2_with fail
  clear r0 r1 r2
  refine HC.out.mono ?_
  rintro e w7 ⟨rfl, g⟩
  clear HC
  clear F16 F17
  have F19 := Lib.hid g
  have F20 := Lib.hid (F19.out.alloc (.cells #[.int .i64 o6.y.ck, .int .i64 o6.y.k, .int .i64 o6.y.h, .int .u64 o6.y.n, .int .i64 o6.peer, .int .i64 o6.version, .int .u64 o6.stamp, .int .i64 o6.e, .int .i64 o6.ek, .int .i64 o6.pub] 44))
  try simp only [World.size_alloc, size_setCell] at F20
  clear g
  clear F18
  have hfx := HFX.out
  unfold Sough.sgP at hfx
  simp only [H1.out, H2.out, H3.out, H4.out, H5.out, H6.out] at hfx
  obtain ⟨f1, f2, f3, f4, f5, f6, f7, f8, f9, f10⟩ := hfx
  subst f1 f2 f3 f4 f6 f8
  have EQ1 : ∀ w, (Op.equalIn 10000 44 (.agg #[.int .i64 o4.y.ck, .int .i64 o4.y.k, .int .i64 o4.y.h, .int .u64 o4.y.n, .int .i64 o4.peer, .int .i64 o4.version, .int .u64 o4.stamp, .int .i64 o4.e, .int .i64 o4.ek, .int .i64 o4.pub]) (.agg #[.int .i64 0, .int .i64 0, .int .i64 0, .int .u64 0, .int .i64 0, .int .i64 0, .int .u64 0, .int .i64 0, .int .i64 0, .int .i64 0])).run Try.prog w = .ok true w := fun w => (eqOpened o4 Sough.zeroO w).trans (by rw [decide_eq_true f5])
  have EQ2 : ∀ w, (Op.equalIn 10000 44 (.agg #[.int .i64 o5.y.ck, .int .i64 o5.y.k, .int .i64 o5.y.h, .int .u64 o5.y.n, .int .i64 o5.peer, .int .i64 o5.version, .int .u64 o5.stamp, .int .i64 o5.e, .int .i64 o5.ek, .int .i64 o5.pub]) (.agg #[.int .i64 0, .int .i64 0, .int .i64 0, .int .u64 0, .int .i64 0, .int .i64 0, .int .u64 0, .int .i64 0, .int .i64 0, .int .i64 0])).run Try.prog w = .ok true w := fun w => (eqOpened o5 Sough.zeroO w).trans (by rw [decide_eq_true f7])
  have EG : Try.prog.eqGuardType Try.prog.depth 44 = false := by kernel_rfl
  have b2 : (o6.peer == 1) = true := by rw [f9]; rfl
  have b3 : ((o6.stamp : Int) == (n : Int)) = true := by rw [f10]; simp
  clear f5 f7 f9 f10
  have r0 := F19.out.mem.rules; simp only [AllCells, CellsAt, Nat.zero_add, Nat.reduceAdd, talkC] at r0
  have r1 := F20.out.mem.rules; simp only [AllCells, CellsAt, Nat.zero_add, Nat.reduceAdd, talkC] at r1
  go_wp2_with fail
  clear r0 r1
  refine (fixed_walk _).mono ?_
  rintro e wF ⟨rfl, hbF⟩
  have FF := Lib.hid (F20.out.later hbF)
  clear hbF
  go_wp2_with fail
  go_ret
  exact ⟨rfl, FF.out.tur.toBelow (by simp) (Nat.le_refl _)⟩

theorem handStranger_walk (a b : Int) (W : World) (wa : (Lit.int .u8 a).wf = true) (wb : (Lit.int .u64 b).wf = true) :
    Calls Try.prog 4 #[.int .u8 a, .int .u64 b] W fun e w' => e = .returned (.bool true) ∧ Below W.heap.size W w' := by
  have b0 := bounds_u8 wa
  have b1 := bounds_u64 wb
  obtain ⟨x, rfl⟩ := Int.eq_ofNat_of_zero_le b0.1
  obtain ⟨y, rfl⟩ := Int.eq_ofNat_of_zero_le b1.1
  exact stranger_kn (k := x % 2) (by omega) (by omega) (by omega) (by omega) W

end Go.Proofs.Ytlfgempjjoclbaa
