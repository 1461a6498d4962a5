/- The walk of the law SplitApart. -/
import Derived.Test.YtkogjhdcakjpeaaSpTwo
import Derived.Test.YtkogjhdcakjpeaaSpFixed
namespace Go.Proofs.Ytkogjhdcakjpeaa
open Go.RowKit Go.Shelf

def cutB (s : ByteArray) : ByteArray := s.extract 0 (min s.size 1100)
theorem lcut_as (id index count : Int) (part : ByteArray) (w : World) (hs : part.size ≤ maxLen) :
    Calls Try.prog 9 #[.agg #[.int .u64 id, .int .i64 index, .int .i64 count, .string part]] w fun e w' => e = .returned (.agg #[.int .u64 id, .int .i64 index, .int .i64 count, .string (cutB part)]) ∧ Below w.heap.size w w' := lcut_walk id index count part w hs

theorem lcut_to {part t : ByteArray} (ht : t = cutB part) (id index count : Int) (w : World) (hs : part.size ≤ maxLen) :
    Calls Try.prog 9 #[.agg #[.int .u64 id, .int .i64 index, .int .i64 count, .string part]] w fun e w' => e = .returned (.agg #[.int .u64 id, .int .i64 index, .int .i64 count, .string t]) ∧ Below w.heap.size w w' := by
  subst ht; exact lcut_walk id index count part w hs
theorem str_ne {l : List UInt8} (h : l ≠ []) : ((⟨l.toArray⟩ : ByteArray) == ⟨#[]⟩) = false := by
  cases l with
  | nil => exact absurd rfl h
  | cons x l => rfl

/-- .. where one of the parts may not be. -/
theorem right_enc {f : Sough.Frag} {l : List UInt8} (h : f.encode = l) : f.right = !l.isEmpty := by
  subst h
  by_cases hk : f.ok
  · rw [Sough.encode_ok hk, (Sough.right_iff f).2 hk]; simp [Sough.bytes_ne f]
  · rw [Sough.encode_no hk]
    have : f.right = false := by rw [Bool.eq_false_iff]; exact fun h => hk ((Sough.right_iff f).1 h)
    rw [this]; rfl

set_option maxRecDepth 100000 in
set_option maxHeartbeats 1600000 in
theorem apart_no (i1 i2 : Nat) (x1 c1 x2 c2 : Int) (s1 s2 : ByteArray) {la lb : List UInt8} {t1 t2 : ByteArray} (ht1 : t1 = cutB s1) (ht2 : t2 = cutB s2) (ea : Sough.Frag.encode ⟨i1, x1, c1, t1.data.toList⟩ = la) (eb : Sough.Frag.encode ⟨i2, x2, c2, t2.data.toList⟩ = lb) {pa pb : Bool} (qa : la.isEmpty = pa) (qb : lb.isEmpty = pb) (hno : pa = true ∨ pb = true) (w : World) (h1 : s1.size ≤ maxLen) (h2 : s2.size ≤ maxLen) :
    Calls Try.prog 8 #[.agg #[.int .u64 i1, .int .i64 x1, .int .i64 c1, .string s1], .agg #[.int .u64 i2, .int .i64 x2, .int .i64 c2, .string s2]] w fun e w' => e = .returned (.bool true) ∧ Below w.heap.size w w' := by
  have T1 := Lib.hid ht1; have T2 := Lib.hid ht2; clear ht1 ht2
  have EA := Lib.hid ea; have EB := Lib.hid eb
  have ra : Sough.Frag.right ⟨i1, x1, c1, t1.data.toList⟩ = !la.isEmpty := right_enc ea
  have rb : Sough.Frag.right ⟨i2, x2, c2, t2.data.toList⟩ = !lb.isEmpty := right_enc eb
  rw [qa] at ra; rw [qb] at rb
  have RA := Lib.hid ra; have RB := Lib.hid rb
  have QA := Lib.hid qa; have QB := Lib.hid qb; clear qa qb
  clear ea eb ra rb
  have A0 := Box.made (Nat.le_refl w.heap.size) (.int .u64 i1) (.int .i64 x1) (.int .i64 c1) (.string s1)
  have hb0 : Below w.heap.size w (w.alloc (.cells #[.int .u64 i1, .int .i64 x1, .int .i64 c1, .string s1] 26)) := (Below.refl _ _).alloc (Nat.le_refl _) _
  have B1 := Box.made hb0.size (.int .u64 i2) (.int .i64 x2) (.int .i64 c2) (.string s2)
  have hb1 : Below (w.alloc (.cells #[.int .u64 i1, .int .i64 x1, .int .i64 c1, .string s1] 26)).heap.size (w.alloc (.cells #[.int .u64 i1, .int .i64 x1, .int .i64 c1, .string s1] 26)) ((w.alloc (.cells #[.int .u64 i1, .int .i64 x1, .int .i64 c1, .string s1] 26)).alloc (.cells #[.int .u64 i2, .int .i64 x2, .int .i64 c2, .string s2] 26)) := (Below.refl _ _).alloc (Nat.le_refl _) _
  have A1 := A0.later hb1
  have b1 := hb0.trans (hb1.mono hb0.size)
  rw [World.size_alloc] at B1
  clear hb0 hb1 A0
  have HA := Lib.hid A1; have HB := Lib.hid B1; have HL := Lib.hid b1
  have H1 := Lib.hid h1; have H2 := Lib.hid h2
  clear A1 B1 b1 h1 h2
  go_enter Try.func8, Try.ntmps8
  go_wp2_with fail
  refine (lcut_to T1.out _ _ _ _ H1.out).mono ?_; rintro e w1 ⟨rfl, hb1⟩
  have HA1 := Lib.hid (HA.out.later hb1)
  have HB1 := Lib.hid (HB.out.later hb1)
  have HL1 := Lib.hid (HL.out.trans (hb1.mono HL.out.size))
  clear hb1 HA HB HL
  have ca := HA1.out.cells
  have cb := HB1.out.cells
  go_wp2_with fail
  refine (lcut_to T2.out _ _ _ _ H2.out).mono ?_; rintro e w2 ⟨rfl, hb2⟩
  have HA2 := Lib.hid ((HA1.out.put (.int .u64 i1) (.int .i64 x1) (.int .i64 c1) (.string t1)).later hb2)
  have HB2 := Lib.hid ((HB1.out.other (show w.heap.size + 1 ≠ w.heap.size by omega) (.int .u64 i1) (.int .i64 x1) (.int .i64 c1) (.string t1)).later hb2)
  have HL2 := Lib.hid ((put4_below HL1.out (Nat.le_refl w.heap.size) (.int .u64 i1) (.int .i64 x1) (.int .i64 c1) (.string t1)).trans (hb2.mono (by have := HL1.out.size; simpa [World.setCell] using this)))
  clear hb2 HA1 HB1 HL1 ca cb
  have ca := HA2.out.cells
  have cb := HB2.out.cells
  go_wp2_with fail
  have HA3 := Lib.hid (HA2.out.other (show w.heap.size ≠ w.heap.size + 1 by omega) (.int .u64 i2) (.int .i64 x2) (.int .i64 c2) (.string t2))
  have HB3 := Lib.hid (HB2.out.put (.int .u64 i2) (.int .i64 x2) (.int .i64 c2) (.string t2))
  have HL3 := Lib.hid (put4_below HL2.out (Nat.le_succ w.heap.size) (.int .u64 i2) (.int .i64 x2) (.int .i64 c2) (.string t2))
  clear ca cb HA2 HB2 HL2
  have hW : put4 w2 (w.heap.size + 1) (.int .u64 i2) (.int .i64 x2) (.int .i64 c2) (.string t2) = ((((w2.setCell ⟨w.heap.size + 1, 0, none⟩ (.int .u64 i2)).setCell ⟨w.heap.size + 1, 1, none⟩ (.int .i64 x2)).setCell ⟨w.heap.size + 1, 2, none⟩ (.int .i64 c2)).setCell ⟨w.heap.size + 1, 3, none⟩ (.string t2)) := rfl
  rw [← hW]
  generalize put4 w2 (w.heap.size + 1) (.int .u64 i2) (.int .i64 x2) (.int .i64 c2) (.string t2) = W at *
  clear hW
  obtain ⟨a0, a1, a2, a3, -⟩ := HA3.out.cells
  obtain ⟨b0, b1, b2, b3, -⟩ := HB3.out.cells
  have CA := encode_lit EA.out rfl
  have CB := encode_lit EB.out rfl
  have x0 : ∀ x : Later W, x.world.cell? ⟨w.heap.size, 0, none⟩ = some (.int .u64 i1) := fun x => x.cell a0
  have x1' : ∀ x : Later W, x.world.cell? ⟨w.heap.size, 1, none⟩ = some (.int .i64 x1) := fun x => x.cell a1
  have x2' : ∀ x : Later W, x.world.cell? ⟨w.heap.size, 2, none⟩ = some (.int .i64 c1) := fun x => x.cell a2
  have x3 : ∀ x : Later W, x.world.cell? ⟨w.heap.size, 3, none⟩ = some (.string t1) := fun x => x.cell a3
  have y0 : ∀ x : Later W, x.world.cell? ⟨w.heap.size + 1, 0, none⟩ = some (.int .u64 i2) := fun x => x.cell b0
  have y1 : ∀ x : Later W, x.world.cell? ⟨w.heap.size + 1, 1, none⟩ = some (.int .i64 x2) := fun x => x.cell b1
  have y2 : ∀ x : Later W, x.world.cell? ⟨w.heap.size + 1, 2, none⟩ = some (.int .i64 c2) := fun x => x.cell b2
  have y3 : ∀ x : Later W, x.world.cell? ⟨w.heap.size + 1, 3, none⟩ = some (.string t2) := fun x => x.cell b3
  clear a0 a1 a2 a3 b0 b1 b2 b3
  refine wp_region_later (by kernel_rfl) (by kernel_rfl) ?_
  go_big_quiet_step (fail)
  go_big_quiet_step ((go_at_call 19; exact Calls.later (CA _)))
  go_big_quiet_step (fail)
  go_big_quiet_step ((go_at_call 19; exact Calls.later (CB _)))
  go_big_quiet_step (fail)
  go_big_quiet_step (fail)
  refine wpQuiet_nil ?_
  rintro ⟨w3, hb3⟩
  have HA4 := Lib.hid (HA3.out.later hb3)
  have HB4 := Lib.hid (HB3.out.later hb3)
  have HL4 := Lib.hid (HL3.out.trans (hb3.mono HL3.out.size))
  change Exit.then _ _ _ _ w3
  clear x0 x1' x2' x3 y0 y1 y2 y3 HA3 HB3 HL3 hb3
  have ca := HA4.out.cells
  have cb := HB4.out.cells
  have qa := QA.out
  have qb := QB.out
  obtain ⟨rfl, rfl⟩ | ⟨rfl, rfl⟩ | ⟨rfl, rfl⟩ : (pa = true ∧ pb = true) ∨ (pa = true ∧ pb = false) ∨ (pa = false ∧ pb = true) := by revert hno; cases pa <;> cases pb <;> simp
  all_goals
    have CRA := right_lit RA.out rfl
    have CRB := right_lit RB.out rfl
    simp only [Bool.not_true, Bool.not_false] at CRA CRB
    go_wp2_with fail
    refine (CRA _).mono ?_; rintro e w4 ⟨rfl, hb4⟩
    have HB5 := Lib.hid (HB4.out.later hb4)
    have HL5 := Lib.hid (HL4.out.trans (hb4.mono HL4.out.size))
    clear ca cb hb4 HB4 HL4 HA4 CRA
    have cb := HB5.out.cells
    go_wp2_with fail
    refine (CRB _).mono ?_; rintro e w5 ⟨rfl, hb5⟩
    have HL6 := Lib.hid (HL5.out.trans (hb5.mono HL5.out.size))
    clear cb hb5 HB5 HL5 CRB
    go_wp2_with fail
    refine (fixed_walk _).mono ?_; rintro e w6 ⟨rfl, hb6⟩
    go_wp2_with fail
    go_ret
    exact ⟨by first | rfl | exact ret_true (by simp), HL6.out.trans (hb6.mono HL6.out.size)⟩

theorem list_eq {a b : ByteArray} (h : a.toList = b.toList) : a.data.toList = b.data.toList := by
  obtain ⟨l, rfl, -⟩ := list_of a
  obtain ⟨m, rfl, -⟩ := list_of b
  simpa using h
theorem enc_inj {i1 i2 : Nat} {x1 x2 c1 c2 : Int} {p1 p2 l : List UInt8} (ha : Sough.Frag.encode ⟨i1, x1, c1, p1⟩ = l) (hb : Sough.Frag.encode ⟨i2, x2, c2, p2⟩ = l) (hl : l.isEmpty = false) : i1 = i2 ∧ x1 = x2 ∧ c1 = c2 ∧ p1 = p2 := by
  have ka : Sough.Frag.ok ⟨i1, x1, c1, p1⟩ := Decidable.byContradiction fun h => by rw [Sough.encode_no h] at ha; subst ha; cases hl
  have kb : Sough.Frag.ok ⟨i2, x2, c2, p2⟩ := Decidable.byContradiction fun h => by rw [Sough.encode_no h] at hb; subst hb; cases hl
  rw [Sough.encode_ok ka] at ha
  rw [Sough.encode_ok kb] at hb
  have := Sough.bytes_inj ka kb (ha.trans hb.symm)
  exact ⟨congrArg Sough.Frag.id this, congrArg Sough.Frag.index this, congrArg Sough.Frag.count this, congrArg Sough.Frag.part this⟩
theorem enc_size {f : Sough.Frag} {l : List UInt8} (h : f.encode = l) : (⟨l.toArray⟩ : ByteArray).size ≤ maxLen := by
  subst h
  refine mk_le ?_
  by_cases hk : f.ok
  · rw [Sough.encode_ok hk]
    have k8 := hk.2.2.2.2.2.2.2
    have a := (Sough.put_len f.id).2
    have b := (Sough.put_len f.index.toNat).2
    have c := (Sough.put_len f.count.toNat).2
    simp only [Sough.Frag.bytes, List.length_append]; omega
  · rw [Sough.encode_no hk]; simp
theorem dec_enc {f : Sough.Frag} {l : List UInt8} (h : f.encode = l) (hl : l.isEmpty = false) : Sough.decode l = (f, 0) := by
  subst h
  by_cases hk : f.ok
  · rw [Sough.encode_ok hk]; exact Sough.decode_bytes hk
  · rw [Sough.encode_no hk] at hl; cases hl
theorem dec_to {l : List UInt8} {id : Nat} {index count : Int} {t : ByteArray} {er : Nat} (hd : Sough.decode l = (⟨id, index, count, t.data.toList⟩, er)) (w : World) (hs : (⟨l.toArray⟩ : ByteArray).size ≤ maxLen) :
    Calls Try.prog 17 #[.string ⟨l.toArray⟩] w fun e w' => e = .returned (.tuple #[.agg #[.int .u64 id, .int .i64 index, .int .i64 count, .string t], .int .i64 er]) ∧ Below w.heap.size w w' := by
  have := dec_as (s := ⟨l.toArray⟩) hd w hs
  simpa only [fragV, bytes_toArray] using this

set_option maxRecDepth 100000 in
set_option maxHeartbeats 1600000 in
theorem apart_yes (i1 i2 : Nat) (x1 c1 x2 c2 : Int) (s1 s2 : ByteArray) {la lb : List UInt8} {t1 t2 : ByteArray} (ht1 : t1 = cutB s1) (ht2 : t2 = cutB s2) (ea : Sough.Frag.encode ⟨i1, x1, c1, t1.data.toList⟩ = la) (eb : Sough.Frag.encode ⟨i2, x2, c2, t2.data.toList⟩ = lb) {pa pb : Bool} (qa : la.isEmpty = pa) (qb : lb.isEmpty = pb) (ha : pa = false) (hb : pb = false) (w : World) (h1 : s1.size ≤ maxLen) (h2 : s2.size ≤ maxLen) :
    Calls Try.prog 8 #[.agg #[.int .u64 i1, .int .i64 x1, .int .i64 c1, .string s1], .agg #[.int .u64 i2, .int .i64 x2, .int .i64 c2, .string s2]] w fun e w' => e = .returned (.bool true) ∧ Below w.heap.size w w' := by
  have T1 := Lib.hid ht1; have T2 := Lib.hid ht2; clear ht1 ht2
  have EA := Lib.hid ea; have EB := Lib.hid eb
  have ra : Sough.Frag.right ⟨i1, x1, c1, t1.data.toList⟩ = !la.isEmpty := right_enc ea
  have rb : Sough.Frag.right ⟨i2, x2, c2, t2.data.toList⟩ = !lb.isEmpty := right_enc eb
  subst ha hb
  have la1 := enc_size ea; have lb1 := enc_size eb
  have DA := Lib.hid (dec_enc ea qa); have DB := Lib.hid (dec_enc eb qb)
  rw [qa] at ra; rw [qb] at rb
  have RA := Lib.hid ra; have RB := Lib.hid rb
  have QA := Lib.hid qa; have QB := Lib.hid qb; clear qa qb
  clear ea eb ra rb
  have A0 := Box.made (Nat.le_refl w.heap.size) (.int .u64 i1) (.int .i64 x1) (.int .i64 c1) (.string s1)
  have hb0 : Below w.heap.size w (w.alloc (.cells #[.int .u64 i1, .int .i64 x1, .int .i64 c1, .string s1] 26)) := (Below.refl _ _).alloc (Nat.le_refl _) _
  have B1 := Box.made hb0.size (.int .u64 i2) (.int .i64 x2) (.int .i64 c2) (.string s2)
  have hb1 : Below (w.alloc (.cells #[.int .u64 i1, .int .i64 x1, .int .i64 c1, .string s1] 26)).heap.size (w.alloc (.cells #[.int .u64 i1, .int .i64 x1, .int .i64 c1, .string s1] 26)) ((w.alloc (.cells #[.int .u64 i1, .int .i64 x1, .int .i64 c1, .string s1] 26)).alloc (.cells #[.int .u64 i2, .int .i64 x2, .int .i64 c2, .string s2] 26)) := (Below.refl _ _).alloc (Nat.le_refl _) _
  have A1 := A0.later hb1
  have b1 := hb0.trans (hb1.mono hb0.size)
  rw [World.size_alloc] at B1
  clear hb0 hb1 A0
  have HA := Lib.hid A1; have HB := Lib.hid B1; have HL := Lib.hid b1
  have H1 := Lib.hid h1; have H2 := Lib.hid h2
  clear A1 B1 b1 h1 h2
  go_enter Try.func8, Try.ntmps8
  go_wp2_with fail
  refine (lcut_to T1.out _ _ _ _ H1.out).mono ?_; rintro e w1 ⟨rfl, hb1⟩
  have HA1 := Lib.hid (HA.out.later hb1)
  have HB1 := Lib.hid (HB.out.later hb1)
  have HL1 := Lib.hid (HL.out.trans (hb1.mono HL.out.size))
  clear hb1 HA HB HL
  have ca := HA1.out.cells
  have cb := HB1.out.cells
  go_wp2_with fail
  refine (lcut_to T2.out _ _ _ _ H2.out).mono ?_; rintro e w2 ⟨rfl, hb2⟩
  have HA2 := Lib.hid ((HA1.out.put (.int .u64 i1) (.int .i64 x1) (.int .i64 c1) (.string t1)).later hb2)
  have HB2 := Lib.hid ((HB1.out.other (show w.heap.size + 1 ≠ w.heap.size by omega) (.int .u64 i1) (.int .i64 x1) (.int .i64 c1) (.string t1)).later hb2)
  have HL2 := Lib.hid ((put4_below HL1.out (Nat.le_refl w.heap.size) (.int .u64 i1) (.int .i64 x1) (.int .i64 c1) (.string t1)).trans (hb2.mono (by have := HL1.out.size; simpa [World.setCell] using this)))
  clear hb2 HA1 HB1 HL1 ca cb
  have ca := HA2.out.cells
  have cb := HB2.out.cells
  go_wp2_with fail
  have HA3 := Lib.hid (HA2.out.other (show w.heap.size ≠ w.heap.size + 1 by omega) (.int .u64 i2) (.int .i64 x2) (.int .i64 c2) (.string t2))
  have HB3 := Lib.hid (HB2.out.put (.int .u64 i2) (.int .i64 x2) (.int .i64 c2) (.string t2))
  have HL3 := Lib.hid (put4_below HL2.out (Nat.le_succ w.heap.size) (.int .u64 i2) (.int .i64 x2) (.int .i64 c2) (.string t2))
  clear ca cb HA2 HB2 HL2
  have hW : put4 w2 (w.heap.size + 1) (.int .u64 i2) (.int .i64 x2) (.int .i64 c2) (.string t2) = ((((w2.setCell ⟨w.heap.size + 1, 0, none⟩ (.int .u64 i2)).setCell ⟨w.heap.size + 1, 1, none⟩ (.int .i64 x2)).setCell ⟨w.heap.size + 1, 2, none⟩ (.int .i64 c2)).setCell ⟨w.heap.size + 1, 3, none⟩ (.string t2)) := rfl
  rw [← hW]
  generalize put4 w2 (w.heap.size + 1) (.int .u64 i2) (.int .i64 x2) (.int .i64 c2) (.string t2) = W at *
  clear hW
  obtain ⟨a0, a1, a2, a3, -⟩ := HA3.out.cells
  obtain ⟨b0, b1, b2, b3, -⟩ := HB3.out.cells
  have CA := encode_lit EA.out rfl
  have CB := encode_lit EB.out rfl
  have x0 : ∀ x : Later W, x.world.cell? ⟨w.heap.size, 0, none⟩ = some (.int .u64 i1) := fun x => x.cell a0
  have x1' : ∀ x : Later W, x.world.cell? ⟨w.heap.size, 1, none⟩ = some (.int .i64 x1) := fun x => x.cell a1
  have x2' : ∀ x : Later W, x.world.cell? ⟨w.heap.size, 2, none⟩ = some (.int .i64 c1) := fun x => x.cell a2
  have x3 : ∀ x : Later W, x.world.cell? ⟨w.heap.size, 3, none⟩ = some (.string t1) := fun x => x.cell a3
  have y0 : ∀ x : Later W, x.world.cell? ⟨w.heap.size + 1, 0, none⟩ = some (.int .u64 i2) := fun x => x.cell b0
  have y1 : ∀ x : Later W, x.world.cell? ⟨w.heap.size + 1, 1, none⟩ = some (.int .i64 x2) := fun x => x.cell b1
  have y2 : ∀ x : Later W, x.world.cell? ⟨w.heap.size + 1, 2, none⟩ = some (.int .i64 c2) := fun x => x.cell b2
  have y3 : ∀ x : Later W, x.world.cell? ⟨w.heap.size + 1, 3, none⟩ = some (.string t2) := fun x => x.cell b3
  clear a0 a1 a2 a3 b0 b1 b2 b3
  refine wp_region_later (by kernel_rfl) (by kernel_rfl) ?_
  go_big_quiet_step (fail)
  go_big_quiet_step ((go_at_call 19; exact Calls.later (CA _)))
  go_big_quiet_step (fail)
  go_big_quiet_step ((go_at_call 19; exact Calls.later (CB _)))
  go_big_quiet_step (fail)
  go_big_quiet_step (fail)
  refine wpQuiet_nil ?_
  rintro ⟨w3, hb3⟩
  have HA4 := Lib.hid (HA3.out.later hb3)
  have HB4 := Lib.hid (HB3.out.later hb3)
  have HL4 := Lib.hid (HL3.out.trans (hb3.mono HL3.out.size))
  change Exit.then _ _ _ _ w3
  clear x0 x1' x2' x3 y0 y1 y2 y3 HA3 HB3 HL3 hb3
  have ca := HA4.out.cells
  have cb := HB4.out.cells
  have qa := QA.out
  have qb := QB.out
  go_wp2_with fail
  refine (dec_to DA.out _ la1).mono ?_; rintro e w4 ⟨rfl, hb4⟩
  have HA5 := Lib.hid (HA4.out.later hb4)
  have HB5 := Lib.hid (HB4.out.later hb4)
  have HL5 := Lib.hid (HL4.out.trans (hb4.mono HL4.out.size))
  clear ca cb hb4 HA4 HB4 HL4
  go_wp2_with fail
  have hx5 : Below w4.heap.size w4 (w4.alloc (.cells #[.int .u64 i1, .int .i64 x1, .int .i64 c1, .string t1] 26)) := (Below.refl _ _).alloc (Nat.le_refl _) _
  have HC6 := Lib.hid (Box.made HL5.out.size (.int .u64 i1) (.int .i64 x1) (.int .i64 c1) (.string t1))
  have HA6 := Lib.hid (HA5.out.later hx5)
  have HB6 := Lib.hid (HB5.out.later hx5)
  have HL6 := Lib.hid (HL5.out.trans (hx5.mono HL5.out.size))
  clear hx5 HA5 HB5 HL5
  generalize (w4.alloc (.cells #[.int .u64 i1, .int .i64 x1, .int .i64 c1, .string t1] 26)) = W5 at *
  refine (dec_to DB.out _ lb1).mono ?_; rintro e w5 ⟨rfl, hb5⟩
  have HA7 := Lib.hid (HA6.out.later hb5)
  have HB7 := Lib.hid (HB6.out.later hb5)
  have HC7 := Lib.hid (HC6.out.later hb5)
  have HL7 := Lib.hid (HL6.out.trans (hb5.mono HL6.out.size))
  clear hb5 HA6 HB6 HC6 HL6
  have ca := HA7.out.cells
  have cb := HB7.out.cells
  have cc := HC7.out.cells
  have za := lt_of_block HA7.out.at_
  have zb := lt_of_block HB7.out.at_
  have zc := lt_of_block HC7.out.at_
  have ea := EA.out
  have eb := EB.out
  by_cases hl : la = lb
  · obtain ⟨rfl, rfl, rfl, ht⟩ := enc_inj (ea.trans hl) eb qb
    obtain rfl : t1 = t2 := by rw [← bytes_toArray t1, ← bytes_toArray t2, ht]
    subst hl
    clear ea eb
    go_wp2_with fail
    all_goals
      ((refine (fixed_walk _).mono ?_); (rintro e w6 ⟨rfl, hb6⟩); (go_wp2_with fail); (go_ret); (exact ⟨by first | rfl | exact ret_true (by simp), HL7.out.trans ((((Below.refl _ _).alloc (Nat.le_refl _) _).trans (hb6.mono (by simp))).mono HL7.out.size)⟩))
  · have hl1 : (la == lb) = false := by simp [hl]
    have hl2 : decide (la = lb) = false := by simp [hl]
    clear ea eb
    go_wp2_with fail
    all_goals first
      | ((refine (fixed_walk _).mono ?_); (rintro e w6 ⟨rfl, hb6⟩); (go_wp2_with fail); (go_ret); (exact ⟨by first | rfl | exact ret_true (by simp), HL7.out.trans ((((Below.refl _ _).alloc (Nat.le_refl _) _).trans (hb6.mono (by simp))).mono HL7.out.size)⟩))
      | ((rename_i e1 e2 e3 h4); (exfalso); (apply hl); (have h12 : i1 = i2 := (by omega)); (have h34 := list_eq h4); (rw [← EA.out, ← EB.out, h12, h34, e2, e3]))

/-- As the frame wants it. -/
theorem splitApart_walk (i1 : Nat) (x1 c1 : Int) (s1 : ByteArray) (i2 : Nat) (x2 c2 : Int) (s2 : ByteArray) (w : World) (h1 : s1.size ≤ maxLen) (h2 : s2.size ≤ maxLen) :
    Calls Try.prog 8 #[.agg #[.int .u64 i1, .int .i64 x1, .int .i64 c1, .string s1], .agg #[.int .u64 i2, .int .i64 x2, .int .i64 c2, .string s2]] w fun e w' => e = .returned (.bool true) ∧ Below w.heap.size w w' := by
  by_cases ha : (Sough.Frag.encode ⟨i1, x1, c1, (cutB s1).data.toList⟩).isEmpty = true
  · exact apart_no i1 i2 x1 c1 x2 c2 s1 s2 rfl rfl rfl rfl rfl rfl (.inl ha) w h1 h2
  · by_cases hb : (Sough.Frag.encode ⟨i2, x2, c2, (cutB s2).data.toList⟩).isEmpty = true
    · exact apart_no i1 i2 x1 c1 x2 c2 s1 s2 rfl rfl rfl rfl rfl rfl (.inr hb) w h1 h2
    · exact apart_yes i1 i2 x1 c1 x2 c2 s1 s2 rfl rfl rfl rfl rfl rfl (by simpa using ha) (by simpa using hb) w h1 h2

end Go.Proofs.Ytkogjhdcakjpeaa
