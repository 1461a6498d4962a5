/- Plain law: what messages may be; their bytes. No program in sight. -/
import Derived.Test.YtjoanlhdocoddaaMsPlain
namespace Sough

def hasF (l : List Fld) (c : Nat) : Bool := l.any fun f => f.c == c
/-- A message with these fields alone. -/
def onlyL (m : Msg) (l : List Fld) : Msg := ⟨fun c => if c = 0 then m.v 0 else if hasF l c = true ∧ c ≠ 3 then m.v c else 0, if hasF l 3 = true then m.offer else []⟩
def offDec (last : Nat) : List UInt8 → Bool
  | [] => true
  | x :: r => decide (1 ≤ x.toNat ∧ x.toNat < last) && offDec x.toNat r
def offerOk (s : List UInt8) : Bool := offDec 256 s && decide (1 ≤ s.length ∧ s.length ≤ 8)
def fldOk (m : Msg) (f : Fld) : Bool := if f.c = 3 then offerOk m.offer else decide ((f.lo : Int) ≤ m.v f.c ∧ m.v f.c ≤ f.hi)
def cellsN : List Nat := [0, 1, 2, 4, 5, 6, 7, 8, 9, 10, 11, 12]
def Msg.same (a b : Msg) : Bool := cellsN.all (fun c => decide (a.v c = b.v c)) && decide (a.offer = b.offer)
def Msg.right (m : Msg) : Bool := !(flds (m.v 0)).isEmpty && (flds (m.v 0)).all (fldOk m) && m.same (onlyL m (flds (m.v 0)))

/-- What a message's cells may hold at all. -/
structure Msg.Wf (m : Msg) : Prop where
  ints : ∀ c ∈ [0, 4, 5, 6, 7, 8, 9, 10], -9223372036854775808 ≤ m.v c ∧ m.v c ≤ 9223372036854775807
  nats : ∀ c ∈ [1, 2, 11, 12], 0 ≤ m.v c ∧ m.v c ≤ 18446744073709551615
  text : m.offer.length ≤ 9223372036854775807

def fldBytes (m : Msg) (f : Fld) : List UInt8 := if f.c = 3 then putText m.offer else put (m.v f.c).toNat
def Msg.bytes (m : Msg) : List UInt8 := put (m.v 0).toNat ++ (flds (m.v 0)).flatMap (fldBytes m)
def Msg.encode (m : Msg) : List UInt8 := if m.right = true then m.bytes else []

def setV (v : Nat → Int) (c : Nat) (x : Int) : Nat → Int := fun k => if k = c then x else v k
/-- A field, read: the message, the place behind it, what is wrong. -/
def readF (s : List UInt8) (m : Msg) (k : Nat) (f : Fld) : Msg × Nat × Nat :=
  if f.c = 3 then (⟨m.v, (getText s k 8).1⟩, (getText s k 8).2.1, (getText s k 8).2.2)
  else if (get s k).2.2 = 0 ∧ 4294967296 < (get s k).1 then (m, (get s k).2.1, 3)
  else if (get s k).2.2 = 0 then (⟨setV m.v f.c (get s k).1, m.offer⟩, (get s k).2.1, 0)
  else (m, (get s k).2.1, (get s k).2.2)
def readAll (s : List UInt8) : Msg → Nat → List Fld → Msg × Nat × Nat
  | m, k, [] => (m, k, 0)
  | m, k, f :: l => if (readF s m k f).2.2 = 0 then readAll s (readF s m k f).1 (readF s m k f).2.1 l else readF s m k f
def zeroMsg : Msg := ⟨fun _ => 0, []⟩
def kindMsg (k : Int) : Msg := ⟨fun c => if c = 0 then k else 0, []⟩
def decodeM (s : List UInt8) : Msg × Nat :=
  if 4096 < s.length then (zeroMsg, 4)
  else if (get s 0).2.2 ≠ 0 then (zeroMsg, (get s 0).2.2)
  else if (get s 0).1 < 1 ∨ 5 ≤ (get s 0).1 then (zeroMsg, 3)
  else
    let r := readAll s (kindMsg (get s 0).1) (get s 0).2.1 (flds (get s 0).1)
    if r.2.2 ≠ 0 then (zeroMsg, r.2.2)
    else if r.2.1 < s.length ∨ r.1.right = false then (zeroMsg, 3)
    else (r.1, 0)

theorem cell_cases {f : Fld} {k : Int} (h : f ∈ flds k) : f.c = 1 ∨ f.c = 2 ∨ f.c = 3 ∨ f.c = 4 ∨ f.c = 5 ∨ f.c = 6 ∨ f.c = 7 ∨ f.c = 8 ∨ f.c = 9 ∨ f.c = 10 ∨ f.c = 11 ∨ f.c = 12 := by
  have h1 : ∀ f ∈ flds1 ++ flds2 ++ flds3 ++ flds4, f.c = 1 ∨ f.c = 2 ∨ f.c = 3 ∨ f.c = 4 ∨ f.c = 5 ∨ f.c = 6 ∨ f.c = 7 ∨ f.c = 8 ∨ f.c = 9 ∨ f.c = 10 ∨ f.c = 11 ∨ f.c = 12 := by decide
  refine h1 f ?_
  rcases flds_cases k with ⟨_, e⟩ | ⟨_, e⟩ | ⟨_, e⟩ | ⟨_, e⟩ | ⟨_, _, _, _, e⟩ <;> rw [e] at h
  · simp [h]
  · simp [h]
  · simp [h]
  · simp [h]
  · simp at h
theorem fld_bounds {f : Fld} {k : Int} (h : f ∈ flds k) : f.lo ≤ 1 ∧ f.hi ≤ 4294967296 ∧ (f.c ≠ 3 → u64cell f.c = false → f.hi ≤ 1048576) := by
  have h1 : ∀ f ∈ flds1 ++ flds2 ++ flds3 ++ flds4, f.lo ≤ 1 ∧ f.hi ≤ 4294967296 ∧ (f.c ≠ 3 → u64cell f.c = false → f.hi ≤ 1048576) := by decide
  refine h1 f ?_
  rcases flds_cases k with ⟨_, e⟩ | ⟨_, e⟩ | ⟨_, e⟩ | ⟨_, e⟩ | ⟨_, _, _, _, e⟩ <;> rw [e] at h
  · simp [h]
  · simp [h]
  · simp [h]
  · simp [h]
  · simp at h
theorem flds_len (k : Int) : (flds k).length ≤ 8 := by
  rcases flds_cases k with ⟨_, e⟩ | ⟨_, e⟩ | ⟨_, e⟩ | ⟨_, e⟩ | ⟨_, _, _, _, e⟩ <;> rw [e] <;> decide
theorem Msg.Wf.cell {m : Msg} (h : m.Wf) {f : Fld} {k : Int} (hf : f ∈ flds k) (h3 : f.c ≠ 3) : (u64cell f.c = true → 0 ≤ m.v f.c ∧ m.v f.c < 18446744073709551616) ∧ (u64cell f.c = false → -9223372036854775808 ≤ m.v f.c ∧ m.v f.c ≤ 9223372036854775807) := by
  have hi := h.ints
  have hn := h.nats
  rcases cell_cases hf with e | e | e | e | e | e | e | e | e | e | e | e <;> rw [e] at h3 ⊢ <;> simp [u64cell] at h3 ⊢
  · have := hn 1 (by simp); omega
  · have := hn 2 (by simp); omega
  · have := hi 4 (by simp); omega
  · have := hi 5 (by simp); omega
  · have := hi 6 (by simp); omega
  · have := hi 7 (by simp); omega
  · have := hi 8 (by simp); omega
  · have := hi 9 (by simp); omega
  · have := hi 10 (by simp); omega
  · have := hn 11 (by simp); omega
  · have := hn 12 (by simp); omega

theorem onlyL_nil (m : Msg) : onlyL m [] = kindMsg (m.v 0) := by simp [onlyL, kindMsg, hasF]
theorem hasF_snoc (l : List Fld) (f : Fld) (c : Nat) : hasF (l ++ [f]) c = (hasF l c || f.c == c) := by simp [hasF]
theorem onlyL_num {m : Msg} {l : List Fld} {f : Fld} (h0 : f.c ≠ 0) (h3 : f.c ≠ 3) : onlyL m (l ++ [f]) = ⟨setV (onlyL m l).v f.c (m.v f.c), (onlyL m l).offer⟩ := by
  unfold onlyL setV
  congr 1
  · funext c
    simp only [hasF_snoc]
    by_cases e : c = f.c
    · subst e; simp [h0, h3]
    · have : (f.c == c) = false := by simpa using Ne.symm e
      simp [this, e]
  · rw [hasF_snoc]
    have : (f.c == 3) = false := by simpa using h3
    rw [this, Bool.or_false]
theorem onlyL_text {m : Msg} {l : List Fld} {f : Fld} (h3 : f.c = 3) : onlyL m (l ++ [f]) = ⟨(onlyL m l).v, m.offer⟩ := by
  unfold onlyL
  congr 1
  · funext c
    simp only [hasF_snoc]
    by_cases e : c = 3
    · simp [e]
    · have : (f.c == c) = false := by rw [h3]; simpa using Ne.symm e
      simp [this]
  · rw [hasF_snoc, h3]; simp

end Sough
