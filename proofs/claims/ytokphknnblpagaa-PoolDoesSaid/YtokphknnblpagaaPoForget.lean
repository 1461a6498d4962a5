/- The walk of (*pool.Pool).forget. -/
import Derived.Test.YtokphknnblpagaaPoMem
import Derived.Outline
namespace Go.Proofs.Ytokphknnblpagaa
open Go.RowKit Go.Maps Go.ChangeMaps

/-- The bytes of the parts that the range is done with. -/
def dsum (left : Lit → Bool) (l : List (Nat × List UInt8)) : Nat := Sough.psum (l.filter fun x => !left (keyI x.1))
theorem dsum_start {D : DataW Unit} {l : List (Nat × List UInt8)} (h : MapsTo keyI mkS D l) : dsum (Maps.has D) l = 0 := by
  unfold dsum
  have : (l.filter fun x => !Maps.has D (keyI x.1)) = [] := List.filter_eq_nil_iff.2 fun x hx => by
    rw [h.has]
    have : (l.any fun p => p.1 == x.1) = true := List.any_eq_true.2 ⟨x, hx, by simp⟩
    simp [this]
  rw [this]; rfl
theorem dsum_end {left : Lit → Bool} {l : List (Nat × List UInt8)} (h : ∀ kl, left kl = false) : dsum left l = Sough.psum l := by
  unfold dsum
  congr 1
  exact List.filter_eq_self.2 fun x _ => by simp [h]
theorem same_keyI (i j : Nat) : (keyI i).sameKey (keyI j) = (i == j) := by
  by_cases e : i = j
  · subst e; rw [WideAt.sameKey_self (isKeyI i)]; simp
  · rw [sameKey_ne (fun e' => e (keyI_inj e'))]; simp [e]
theorem same_keyU (i j : Nat) : (keyU i).sameKey (keyU j) = (i == j) := by
  by_cases e : i = j
  · subst e; rw [WideAt.sameKey_self (isKeyU i)]; simp
  · rw [sameKey_ne (fun e' => e (keyU_inj e'))]; simp [e]
theorem dsum_step {left : Lit → Bool} {i : Nat} {s : List UInt8} (hl : left (keyI i) = true) : ∀ {l : List (Nat × List UInt8)}, (l.map (·.1)).Nodup → (i, s) ∈ l → dsum (fun z => left z && !z.sameKey (keyI i)) l = dsum left l + s.length
  | [], _, h => absurd h (by simp)
  | x :: l, hn, h => by
    rw [List.map_cons, List.nodup_cons] at hn
    have key : ∀ y : Nat × List UInt8, (!(left (keyI y.1) && !(keyI y.1).sameKey (keyI i))) = (!left (keyI y.1) || (y.1 == i)) := fun y => by
      rw [same_keyI]; cases left (keyI y.1) <;> simp
    rcases List.mem_cons.1 h with rfl | h
    · have hr : (l.filter fun y => !(left (keyI y.1) && !(keyI y.1).sameKey (keyI i))) = l.filter fun y => !left (keyI y.1) := by
        apply List.filter_congr
        intro y hy
        rw [key]
        have : y.1 ≠ i := fun e => hn.1 (by show i ∈ _; rw [← e]; exact List.mem_map_of_mem (f := (·.1)) hy)
        simp [this]
      unfold dsum
      rw [List.filter_cons, List.filter_cons, hr, key]
      simp [hl, Sough.psum_cons]
      omega
    · have ih := dsum_step hl hn.2 h
      have : x.1 ≠ i := fun e => hn.1 (by rw [e]; exact List.mem_map_of_mem (f := (·.1)) h)
      unfold dsum at ih ⊢
      rw [List.filter_cons, List.filter_cons, key]
      have e' : (x.1 == i) = false := by simpa using this
      rw [e', Bool.or_false]
      split
      · rw [Sough.psum_cons, Sough.psum_cons, ih]; omega
      · exact ih
theorem dsum_le (left : Lit → Bool) : ∀ l : List (Nat × List UInt8), dsum left l ≤ Sough.psum l
  | [] => by simp [dsum]
  | x :: l => by
    have := dsum_le left l
    unfold dsum at this ⊢
    rw [List.filter_cons]
    split <;> simp only [Sough.psum_cons] <;> omega

def pcells (mb slots room : Nat) (h : Int) : Array Value := #[.map (some mb), .int .i64 slots, .int .i64 room, .int .i64 h]

/-- The range over the parts of a message that is forgotten. -/
def ForgetR (w : World) (p mb slots room b r n held : Nat) (D : DataW Unit) (l : List (Nat × List UInt8)) (wr : World) : Prop :=
  ∃ left cnt, wr.ranges Try.prog 3 (plainElem (H := Unit) Try.prog 9) b r n D left cnt ∧ (∀ kl, left kl = true → ∃ i, kl = keyI i) ∧
    wr.heap[p]? = some (.cells (pcells mb slots room ((held : Int) - dsum left l)) 60 (0, 0)) ∧ Turned [p] w wr

/-- What forgetting leaves: the count is less, and the map is as 'delete' leaves it. -/
def ForgetTo (w : World) (p mb slots room id held : Nat) (e : Ending) (w' : World) : Prop :=
  e = .returned (.tuple #[]) ∧ ∃ w1, Turned [p] w w1 ∧ w1.heap[p]? = some (.cells (pcells mb slots room held) 60 (0, 0)) ∧
    ∃ ty, (Builtin.delete_ #[58, 32] ty #[.map (some mb), .int .u64 id]).run Try.prog w1 = .ok (.tuple #[]) w'

theorem cells4 {w : World} {p : Nat} {a b c d : Value} {T : TypeId} (h : w.heap[p]? = some (.cells #[a, b, c, d] T (0, 0))) :
    w.cell? ⟨p, 0, none⟩ = some a ∧ w.cell? ⟨p, 1, none⟩ = some b ∧ w.cell? ⟨p, 2, none⟩ = some c ∧ w.cell? ⟨p, 3, none⟩ = some d ∧ w.frozen? ⟨p, 3, none⟩ = false := by
  simp [World.cell?, World.frozen?, h]
theorem cells3 {w : World} {p : Nat} {a b c : Value} {T : TypeId} (h : w.heap[p]? = some (.cells #[a, b, c] T (0, 0))) :
    w.cell? ⟨p, 0, none⟩ = some a ∧ w.cell? ⟨p, 1, none⟩ = some b ∧ w.cell? ⟨p, 2, none⟩ = some c := by
  simp [World.cell?, h]
theorem heap_setCell3 {w : World} {p : Nat} {a b c d : Value} {T : TypeId} (h : w.heap[p]? = some (.cells #[a, b, c, d] T (0, 0))) (v : Value) : (w.setCell ⟨p, 3, none⟩ v).heap[p]? = some (.cells #[a, b, c, v] T (0, 0)) := by
  simp only [World.setCell, Array.getElem?_modify, if_pos, h]
  simp

/-- 'delete' at the operation, by its run. -/
theorem delete_run {P : Program} (w : World) {ops : Array Oper} {rest : List Oper} {o : Oper} {a : Act} {Q : Exit → Act → World → Prop} (hg : o.guard = none) (m x : Operand) (t k : TypeId)
    (hop : o.op = Op.call { callee := Callee.builtin Builtin.delete, args := #[m, x], argTypes := #[t, k] }) {mv key : Value} {w' : World} (hm : a.eval m = mv) (hx : a.eval x = key)
    (hrun : (Builtin.delete_ #[t, k] o.type #[mv, key]).run P w = .ok (.tuple #[]) w') (hK : wpList P ops Q rest (a.put o.dst (.tuple #[])) w') : wpList P ops Q (o :: rest) a w := by
  refine wpList_plain hg fun K' hK' => ?_
  unfold Oper.wp
  simp [execOp, hop, resolve, invoke, builtin, hm, hx, hrun, Result.andThen]
  exact hK' _ _ hK

set_option maxRecDepth 100000 in
set_option maxHeartbeats 3200000 in
theorem forget_any {p mb a b n nd slots room id held rest : Nat} {D DM : DataW Unit} {l : List (Nat × List UInt8)} {ml : List (Nat × Nat)} {cnt0 since : Nat} (w : World)
    (hp : w.heap[p]? = some (.cells (pcells mb slots room held) 60 (0, 0))) (ha : w.heap[a]? = some (.cells #[.int .i64 cnt0, .map (some b), .int .u64 since] 67 (0, 0)))
    (ho : w.ownsMap Try.prog 3 (plainElem (H := Unit) Try.prog 9) b nd D) (hM : MapsTo keyI mkS D l) (hn : (l.map (·.1)).Nodup)
    (hmo : w.ownsMap Try.prog 32 ptrElem mb n DM) (hMM : MapsTo keyU mkP DM ml) (hid : id < 18446744073709551616) (hin : (id, a) ∈ ml)
    (hpb : p ≠ b) (hpm : p ≠ mb) (hh : held < 9223372036854775808) (hl : Sough.psum l + rest = held) :
    Calls Try.prog 21 #[.pointer (some ⟨p, 0, none⟩), .int .u64 id] w (ForgetTo w p mb slots room id rest) := by
  obtain ⟨p0, p1, p2, p3, _⟩ := cells4 hp
  obtain ⟨a0, a1, a2⟩ := cells3 ha
  have lk := look_msg_ok hmo hMM hid hin false
  simp only [Bool.false_eq_true, if_false] at lk
  have HP := Lib.hid hp; have HM := Lib.hid hM; have HN := Lib.hid hn; have HO := Lib.hid ho; have HMO := Lib.hid hmo; have HL := Lib.hid hl; have HH := Lib.hid hh; have HID := Lib.hid hid
  clear hp ha ho hM hn hmo hl hh hMM hin
  go_enter Try.func21, Try.ntmps21
  go_wp2_with (at_range; refine wpList_range_own _ rfl _ 65 rfl 3 9 lawI Try.underlying65 _ b nd D rfl HO.out ?_; intro w0 hrg0 hg0 hs0)
  go_frame
  have HS0 := Lib.hid hs0
  clear hs0
  go_loopw [5] (fun _ wr => ForgetR w p mb slots room b w.heap.size nd held D l wr) (fun _ wr => wr.rangeLeft b w.heap.size)
  case atStart => exact ⟨_, _, hrg0, HM.out.only, by rw [dsum_start HM.out, hg0.block p (lt_of_block HP.out) (by simp), HP.out]; simp, Turned.grown hg0 (by simp)⟩
  case round =>
    obtain ⟨left, cnt, hrg, hk, hpc, ht⟩ := hrel
    have HPC := Lib.hid hpc; have HT := Lib.hid ht; have HRG := Lib.hid hrg; have HK := Lib.hid hk
    obtain ⟨q0, q1, q2, q3, q4⟩ := cells4 hpc
    clear hpc ht hrg hk p0 p1 p2 p3 a0 a1 a2 hrg0 hg0 lk
    go_wp2_with (at_next; refine next_parts _ rfl _ rfl b w.heap.size nd D left cnt l rfl HRG.out HM.out HK.out ?_ ?_)
    · intro hl0
      have hpr : ((held : Int) - dsum left l) = rest := by rw [dsum_end hl0]; have := HL.out; omega
      rw [hpr] at q3
      obtain ⟨w2, hrun, _, _⟩ := (HMO.out.same (HT.out.block mb HMO.out.lt (by simp; omega))).drop lawU Try.underlying58 (keyOfU HID.out) 0
      have HD : Hid (ForgetTo w p mb slots room id rest (.returned (.tuple #[])) w2) := Lib.hid ⟨rfl, wr, HT.out, by rw [← hpr]; exact HPC.out, 0, hrun⟩
      have HRUN := Lib.hid hrun
      clear hrun hpr hl0
      go_wp2_with (at_delete; refine delete_run _ rfl _ _ 58 32 rfl rfl rfl HRUN.out ?_)
      go_end0
      exact HD.out
    · intro i s w2 cnt2 hin hli hrg2 hlt hg2 hs2 hen
      have hpw : p < wr.heap.size := lt_of_block HPC.out
      have hp0 : p < w.heap.size := lt_of_block HP.out
      have hp2 := (hg2.block p hpw (by simp; omega)).trans HPC.out
      obtain ⟨q0, q1, q2, q3, q4⟩ := cells4 hp2
      have hds := dsum_step hli HN.out hin
      have hdl := dsum_le (fun z => left z && !z.sameKey (keyI i)) l
      have hs3 := heap_setCell3 hp2 (.int .i64 ((held : Int) - dsum left l - s.length))
      have ht2 := (HT.out.trans (Turned.grown (S := [w.heap.size]) hg2 (fun j e => .inl (by cases e; simp))) (fun j e => .inr (by simp at e; omega))).trans (Turned.setCell (a := ⟨p, 3, none⟩) (S := [p]) (by simp) (.int .i64 ((held : Int) - dsum left l - s.length))) (fun j e => .inl e)
      have hl1 := HL.out
      have hh1 := HH.out
      have d1 : (dsum left l : Int) + s.length ≤ held := by omega
      have d2 : (s.length : Int) ≤ 9223372036854775807 := by omega
      have d3 : (held : Int) ≤ 9223372036854775807 := by omega
      have d4 : (0 : Int) ≤ dsum left l := by omega
      have hx : ((held : Int) - dsum left l - s.length) = (held : Int) - (dsum (fun z => left z && !z.sameKey (keyI i)) l : Nat) := by omega
      have hrg3 := hrg2.same (w' := w2.setCell ⟨p, 3, none⟩ (.int .i64 ((held : Int) - dsum left l - s.length))) (Below.heap_setCell _ _ _ _ (by simp; omega)) (Below.heap_setCell _ _ _ _ (by simp; omega))
      have HR : Hid (ForgetR w p mb slots room b w.heap.size nd held D l (w2.setCell ⟨p, 3, none⟩ (.int .i64 ((held : Int) - dsum left l - s.length)))) :=
        Lib.hid ⟨_, cnt2, hrg3, fun kl h => HK.out kl (by simp at h; exact h.1), by rw [← hx]; exact hs3, ht2⟩
      have HMS : Hid ((w2.setCell ⟨p, 3, none⟩ (.int .i64 ((held : Int) - dsum left l - s.length))).rangeLeft b w.heap.size < wr.rangeLeft b w.heap.size) := Lib.hid (by rw [hrg3.left_eq, HRG.out.left_eq]; exact hlt)
      clear hds hdl hs3 ht2 hl1 hh1 hx hrg3 hrg2 hg2 hp2 hin hli
      generalize dsum left l = d at *
      go_wp2_with fail
      go_roundw
      case rel => exact HR.out
      case measure => exact HMS.out

end Go.Proofs.Ytokphknnblpagaa
