/- The walk of (*msg.Msg).fields. -/
import Derived.Test.YtjoanlhdocoddaaMsFields
namespace Go.Proofs.Ytjoanlhdocoddaa
open Go.RowKit Go.Maps Go.ChangeMaps

theorem fsteps : ∀ i, i < 101 → StepAt i
  | 0, _ => fst0
  | 1, _ => fst1
  | 2, _ => fst2
  | 3, _ => fst3
  | 4, _ => fst4
  | 5, _ => fst5
  | 6, _ => fst6
  | 7, _ => fst7
  | 8, _ => fst8
  | 9, _ => fst9
  | 10, _ => fst10
  | 11, _ => fst11
  | 12, _ => fst12
  | 13, _ => fst13
  | 14, _ => fst14
  | 15, _ => fst15
  | 16, _ => fst16
  | 17, _ => fst17
  | 18, _ => fst18
  | 19, _ => fst19
  | 20, _ => fst20
  | 21, _ => fst21
  | 22, _ => fst22
  | 23, _ => fst23
  | 24, _ => fst24
  | 25, _ => fst25
  | 26, _ => fst26
  | 27, _ => fst27
  | 28, _ => fst28
  | 29, _ => fst29
  | 30, _ => fst30
  | 31, _ => fst31
  | 32, _ => fst32
  | 33, _ => fst33
  | 34, _ => fst34
  | 35, _ => fst35
  | 36, _ => fst36
  | 37, _ => fst37
  | 38, _ => fst38
  | 39, _ => fst39
  | 40, _ => fst40
  | 41, _ => fst41
  | 42, _ => fst42
  | 43, _ => fst43
  | 44, _ => fst44
  | 45, _ => fst45
  | 46, _ => fst46
  | 47, _ => fst47
  | 48, _ => fst48
  | 49, _ => fst49
  | 50, _ => fst50
  | 51, _ => fst51
  | 52, _ => fst52
  | 53, _ => fst53
  | 54, _ => fst54
  | 55, _ => fst55
  | 56, _ => fst56
  | 57, _ => fst57
  | 58, _ => fst58
  | 59, _ => fst59
  | 60, _ => fst60
  | 61, _ => fst61
  | 62, _ => fst62
  | 63, _ => fst63
  | 64, _ => fst64
  | 65, _ => fst65
  | 66, _ => fst66
  | 67, _ => fst67
  | 68, _ => fst68
  | 69, _ => fst69
  | 70, _ => fst70
  | 71, _ => fst71
  | 72, _ => fst72
  | 73, _ => fst73
  | 74, _ => fst74
  | 75, _ => fst75
  | 76, _ => fst76
  | 77, _ => fst77
  | 78, _ => fst78
  | 79, _ => fst79
  | 80, _ => fst80
  | 81, _ => fst81
  | 82, _ => fst82
  | 83, _ => fst83
  | 84, _ => fst84
  | 85, _ => fst85
  | 86, _ => fst86
  | 87, _ => fst87
  | 88, _ => fst88
  | 89, _ => fst89
  | 90, _ => fst90
  | 91, _ => fst91
  | 92, _ => fst92
  | 93, _ => fst93
  | 94, _ => fst94
  | 95, _ => fst95
  | 96, _ => fst96
  | 97, _ => fst97
  | 98, _ => fst98
  | 99, _ => fst99
  | 100, _ => fst100
  | n + 101, h => absurd h (by omega)
theorem fsize : fops.size = 101 := by kernel_rfl
theorem fafter_all : (fops.toList.zipIdx.all fun x => x.1.after.all fun e => !Region.binds .any e || decide (e.on < x.2)) = true := by kernel_rfl
theorem fafter (i : Nat) (o : Oper) (h : fops[i]? = some o) : ∀ e ∈ o.after, Region.binds .any e = true → e.on < i := by
  intro e he hb
  have hm : (o, i) ∈ fops.toList.zipIdx := by
    rw [List.mem_zipIdx_iff_getElem?]
    simpa using h
  have := List.all_eq_true.1 fafter_all _ hm
  simp only [Array.all_eq_true] at this
  obtain ⟨j, hj, rfl⟩ := Array.getElem_of_mem he
  have := this j hj
  simpa [hb] using this
theorem fdeps {i : Nat} {o : Oper} {L : Nat → Bool} (h : fops[i]? = some o) (hr : (o.after.all fun e => !Region.binds .any e || L e.on) = true) : ∀ j, dj i j = true → L j = true := by
  intro j hj
  unfold dj at hj
  rw [h] at hj
  simp only [Option.any_some, Array.any_eq_true] at hj
  obtain ⟨k, hk, e⟩ := hj
  rw [Bool.and_eq_true] at e
  rw [Array.all_eq_true] at hr
  have := hr k hk
  rw [e.2] at this
  have ej : o.after[k].on = j := by simpa using e.1
  rw [ej] at this
  simpa using this

theorem list_getD (l : List Value) : l = (List.range l.length).map fun i => l.getD i undef := by
  apply List.ext_getElem (by simp)
  intro i h1 h2
  simp [List.getD_eq_getElem?_getD, h1]
theorem frame108 {a : Act} (h : a.tmps.size = 108) (hd : a.defers = []) : ∃ e : Nat → Value, a = ⟨#[e 0, e 1, e 2, e 3, e 4, e 5, e 6, e 7, e 8, e 9, e 10, e 11, e 12, e 13, e 14, e 15, e 16, e 17, e 18, e 19, e 20, e 21, e 22, e 23, e 24, e 25, e 26, e 27, e 28, e 29, e 30, e 31, e 32, e 33, e 34, e 35, e 36, e 37, e 38, e 39, e 40, e 41, e 42, e 43, e 44, e 45, e 46, e 47, e 48, e 49, e 50, e 51, e 52, e 53, e 54, e 55, e 56, e 57, e 58, e 59, e 60, e 61, e 62, e 63, e 64, e 65, e 66, e 67, e 68, e 69, e 70, e 71, e 72, e 73, e 74, e 75, e 76, e 77, e 78, e 79, e 80, e 81, e 82, e 83, e 84, e 85, e 86, e 87, e 88, e 89, e 90, e 91, e 92, e 93, e 94, e 95, e 96, e 97, e 98, e 99, e 100, e 101, e 102, e 103, e 104, e 105, e 106, e 107], []⟩ ∧ ∀ i, a.eval (.tmp i) = e i := by
  obtain ⟨⟨l⟩, d⟩ := a
  simp only at hd
  subst hd
  refine ⟨fun i => l.getD i undef, ?_, fun i => by simp only [Act.eval, Array.getD_eq_getD_getElem?, List.getElem?_toArray, List.getD_eq_getElem?_getD]⟩
  have hl : l.length = 108 := by simpa using h
  have e := list_getD l
  rw [hl] at e
  congr 1
  exact congrArg List.toArray e

/-- What 'fields' leaves: the row of the kind's fields, or nil. -/
def FieldsTo (w : World) (b : Nat) (kind : Int) (e : Ending) (w' : World) : Prop :=
  Below w.heap.size w w' ∧ ((Sough.flds kind = [] ∧ e = .returned (.slice none 0 0)) ∨
    (Sough.flds kind ≠ [] ∧ ∃ g, e = .returned (.slice (some ⟨g, 0, none⟩) (Sough.flds kind).length (Sough.flds kind).length) ∧ w.heap.size ≤ g ∧ w'.heap[g]? = some (.cells (rowC b (Sough.flds kind)) 60 (0, 0))))

set_option maxRecDepth 100000 in
set_option maxHeartbeats 3200000 in
theorem fields_any {b : Nat} {m : Sough.Msg} (w : World) (hb : w.heap[b]? = some (.cells (msgC m) 24 (0, 0))) (hk : (Lit.int .i64 (m.v 0)).wf = true) :
    Calls Try.prog 22 #[.pointer (some ⟨b, 0, none⟩)] w (FieldsTo w b (m.v 0)) := by
  go_enter Try.func22, Try.ntmps22
  go_wp2_with fail
  refine wp_region_inv (ops := fops) (FI b w) (by kernel_rfl) fafter ?_ ?_ ?_
  · intro L hL
    have hL' : ∀ i, i < 101 → L i = false := fun i hi => hL i (by rw [fsize]; exact hi)
    refine ⟨rfl, rfl, rfl, rfl, rfl, fun x hx hLx => ?_, (Below.refl _ _).drew, fun _ i hi => hL' i ((by decide : ∀ i ∈ late, i < 101) i hi), fun y hy hLy => ?_, fun x hx hLx => ?_, fun h0 => ?_⟩
    · have h1 : x.1 ∈ cops := by rw [← cops_eq b]; exact List.mem_map_of_mem (f := (·.1)) hx
      rw [hL' _ ((by decide +kernel : ∀ i ∈ cops, i < 101) _ h1)] at hLx
      exact absurd hLx (by decide)
    · rw [hL' _ ((by decide : ∀ y ∈ fins, y.1 < 101) y hy)] at hLy
      exact absurd hLy (by decide)
    · rw [hL' _ ((by decide : ∀ y ∈ fslices, y.1 < 101) x hx)] at hLx
      exact absurd hLx (by decide)
    · rw [hL' 0 (by decide)] at h0
      exact absurd h0 (by decide)
  · intro i o L a' w' ho hLi hr hI
    have hi : i < 101 := by
      have := (Array.getElem?_eq_some_iff.1 ho).1
      rw [fsize] at this
      exact this
    exact fsteps i hi b w _ L a' w' (fdeps ho hr) hLi hI
  · intro L a' w' hL hI
    have hL' : ∀ i, i < 101 → L i = true := fun i hi => hL i (by rw [fsize]; exact hi)
    obtain ⟨mb, D, k1, k2, k3, k4, k5, k6, k7, k8⟩ := hI.map (hL' 0 (by decide))
    have s5 := k8 (hL' asop (by decide))
    have s0 := hI.s0
    have hbel := hI.below
    have hc : w'.cell? ⟨b, 0, none⟩ = some (.int .i64 (m.v 0)) := by
      have hb' := (hbel.block b (lt_of_block hb)).trans hb
      simp [World.cell?, hb', msgC]
    obtain ⟨v, ps, hrun, hv⟩ := k3.lookup lawK Try.underlying80 (zeroF w') (zd := .held (.slice none 0 0)) (zp := []) rfl (keyOf_int_mk Try.underlying3 hk : keyOf Try.prog 3 (.int .i64 (m.v 0)) = some (keyK (m.v 0)))
    have hv' : (.held v : DataW Value) = D.atKey (keyK (m.v 0)) (.held (.slice none 0 0)) := by simp only [heldE, Option.some.injEq, Prod.mk.injEq] at hv; exact hv.1
    have key : ∀ x ∈ fins, ∀ y ∈ fslices, y.2.1 = x.2.2 → m.v 0 = (x.2.1 : Nat) → ∃ g, v = .slice (some ⟨g, 0, none⟩) y.2.2.length y.2.2.length ∧ w.heap.size ≤ g ∧ w'.heap[g]? = some (.cells (rowC b y.2.2) 60 (0, 0)) := fun x hx y hy e em => by
      have h1 := k5 x hx (hL' _ ((by decide : ∀ y ∈ fins, y.1 < 101) x hx)) (.held (.slice none 0 0))
      obtain ⟨g, g1, g2, g3⟩ := hI.slices y hy (hL' _ ((by decide : ∀ y ∈ fslices, y.1 < 101) y hy))
      rw [em, h1, ← e, g1] at hv'
      exact ⟨g, by injection hv', g2, g3⟩
    have HT : Hid (FieldsTo w b (m.v 0) (.returned v) w') := by
      refine Lib.hid ⟨hbel, ?_⟩
      rcases Sough.flds_cases (m.v 0) with ⟨e, ef⟩ | ⟨e, ef⟩ | ⟨e, ef⟩ | ⟨e, ef⟩ | ⟨e1, e2, e3, e4, ef⟩
      · obtain ⟨g, rfl, g2, g3⟩ := key (40, 1, 45) (by decide) (39, 45, Sough.flds1) (by decide) rfl e
        rw [ef]
        exact .inr ⟨by decide, g, rfl, g2, g3⟩
      · obtain ⟨g, rfl, g2, g3⟩ := key (67, 2, 71) (by decide) (66, 71, Sough.flds2) (by decide) rfl e
        rw [ef]
        exact .inr ⟨by decide, g, rfl, g2, g3⟩
      · obtain ⟨g, rfl, g2, g3⟩ := key (78, 3, 81) (by decide) (77, 81, Sough.flds3) (by decide) rfl e
        rw [ef]
        exact .inr ⟨by decide, g, rfl, g2, g3⟩
      · obtain ⟨g, rfl, g2, g3⟩ := key (98, 4, 100) (by decide) (97, 100, Sough.flds4) (by decide) rfl e
        rw [ef]
        exact .inr ⟨by decide, g, rfl, g2, g3⟩
      · have hno : Maps.has D (keyK (m.v 0)) = false := k6 _ fun x hx e => by
          have hx' : x.2.1 = 1 ∨ x.2.1 = 2 ∨ x.2.1 = 3 ∨ x.2.1 = 4 := (by decide : ∀ x ∈ fins, x.2.1 = 1 ∨ x.2.1 = 2 ∨ x.2.1 = 3 ∨ x.2.1 = 4) x hx
          have e' : m.v 0 = (x.2.1 : Nat) := by simpa [keyK] using e
          omega
        rw [atKey_of_not_has hno] at hv'
        injection hv' with hv'
        exact .inl ⟨ef, by rw [hv']⟩
    obtain ⟨e, rfl, he⟩ := frame108 hI.size hI.defers
    have e0 : e 0 = .pointer (some ⟨b, 0, none⟩) := by rw [← he]; exact s0
    have e5 : e 5 = .map (some mb) := by rw [← he]; exact s5
    clear hI k1 k2 k3 k4 k5 k6 k7 k8 s5 s0 hbel hv hv' key he
    rw [e0, e5]
    clear e0 e5
    go_wp2_with fail
    go_ret
    exact HT.out

end Go.Proofs.Ytjoanlhdocoddaa
