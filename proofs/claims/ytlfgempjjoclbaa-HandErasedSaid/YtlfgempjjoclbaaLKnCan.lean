/- The walk of know.Can (layer 8). -/
import Derived.Test.YtlfgempjjoclbaaLKnBegin
namespace Go.Proofs.Ytlfgempjjoclbaa
open Go.RowKit Go.Maps Go.ChangeMaps
set_option maxRecDepth 100000 in
set_option maxHeartbeats 3200000 in
theorem kcan_at {w : World} {p cap : Nat} {a : Option Addr} {st : Sough.Store} {S : List Nat} {f : Sough.Flg} {known : List Int} {x : Int} {v : Bool} {er : Nat} (h : StoreAt w p st S) (hok : st.Ok) (hk : IntsIn w a known) (hkl : known.length ≤ 9223372036854775807) (hv : Sough.canK st known f x = (v, er)) :
    Calls Try.prog 22 #[.pointer (some ⟨p, 0, none⟩), .slice a known.length cap, .agg #[.bool f.dh, .bool f.kem], .int .i64 x] w fun e w' => e = .returned (.tuple #[.bool v, .int .i64 er]) ∧ Below w.heap.size w w' := by
  have hl9 : st.l.length ≤ 1048576 := Nat.le_trans hok.len hok.most
  have HB0 := Lib.hid ((Below.refl w.heap.size w).alloc (Nat.le_refl _) (.cells #[.bool f.dh, .bool f.kem] 69))
  have HS := Lib.hid (h.later HB0.out)
  obtain ⟨n, hn⟩ : ∃ n, n = st.l.length + 1 := ⟨_, rfl⟩
  have CB := Lib.hid (kbegin_any (cap := cap) (f := f) HS.out hok hn (hk.later HB0.out) hkl)
  have hn9 : n ≤ 1048577 := by omega
  have HN := Lib.hid hn
  have HOK := Lib.hid hok; have HV := Lib.hid hv
  clear h hok hk hv hn
  go_enter Try.func22, Try.ntmps22
  go_wp2_with fail
  refine CB.out.mono ?_
  rintro e w2 (⟨hall, mp, lb, cb, pb, kb, mb, rfl, hM, hB, hL, hbel, hcb⟩ | ⟨hall, rfl, hbel⟩)
  · have HM := Lib.hid hM; have HBX := Lib.hid hB; have HL := Lib.hid hL; have HBL := Lib.hid (HB0.out.trans (hbel.mono HB0.out.size)); have HAL := Lib.hid hall; have HCB := Lib.hid hcb
    have CL := Lib.hid (len_any _ (HS.out.later hbel) hl9)
    clear hM hB hL hall hbel hcb CB
    by_cases h1 : x < 1
    · have HE : Hid (Sough.canK st known f x = (false, 5)) := Lib.hid (by
        unfold Sough.canK Sough.Store.has at *; rw [if_neg (by rw [HAL.out]; simp), if_pos (by simp; omega)])
      obtain ⟨rfl, rfl⟩ : false = v ∧ 5 = er := by have := HE.out.symm.trans HV.out; simpa using this
      go_wp2_with fail
      go_ret2
      exact ⟨rfl, HBL.out⟩
    · go_wp2_with fail
      refine CL.out.mono ?_
      rintro e w3 ⟨rfl, rfl⟩
      by_cases h2 : (st.l.length : Int) < x
      · have HE : Hid (Sough.canK st known f x = (false, 5)) := Lib.hid (by
          unfold Sough.canK Sough.Store.has at *; rw [if_neg (by rw [HAL.out]; simp), if_pos (by simp; omega)])
        obtain ⟨rfl, rfl⟩ : false = v ∧ 5 = er := by have := HE.out.symm.trans HV.out; simpa using this
        go_wp2_with fail
        go_ret2
        exact ⟨rfl, HBL.out⟩
      · have HE : Hid (Sough.canK st known f x = (Sough.cn (Sough.allK st f (n + 1) (Sough.knownK st known)) x.toNat, 0)) := Lib.hid (by
          unfold Sough.canK Sough.Store.has at *; rw [HN.out, if_neg (by rw [HAL.out]; simp), if_neg (by simp; omega)])
        have HVE : Hid (v = Sough.cn (Sough.allK st f (n + 1) (Sough.knownK st known)) x.toNat ∧ er = 0) := Lib.hid (by have := HV.out.symm.trans HE.out; simpa using this)
        have CA := Lib.hid (all_any HM.out HBX.out HL.out HOK.out)
        obtain ⟨xn, rfl⟩ : ∃ xn : Nat, x = xn := ⟨x.toNat, by omega⟩
        have hxn : xn < n := by have := HN.out; omega
        have her := HVE.out.2; subst her
        clear HE HV CL
        go_wp2_with fail
        refine CA.out.mono ?_
        rintro e w4 ⟨rfl, hM4, ht4⟩
        have zm := hM4.mind.2.1
        have zc : w4.cell? ⟨cb, xn, none⟩ = some (.bool v) := by rw [HVE.out.1]; exact hM4.cell hxn
        have HB4 := Lib.hid (HBL.out.trans (ht4.toBelow (B := w.heap.size) (by
          intro i hi; rw [List.mem_singleton] at hi; subst hi; have := HCB.out; have := HB0.out.size; omega) HBL.out.size))
        clear hM4 ht4 CA
        go_wp2_with fail
        go_ret2
        exact ⟨rfl, HB4.out⟩
  · have HE : Hid (Sough.canK st known f x = (false, 1)) := Lib.hid (by unfold Sough.canK; rw [if_pos hall])
    obtain ⟨rfl, rfl⟩ : false = v ∧ 1 = er := by have := HE.out.symm.trans HV.out; simpa using this
    have HBL := Lib.hid (HB0.out.trans (hbel.mono HB0.out.size))
    clear hall hbel
    go_wp2_with fail
    go_ret2
    exact ⟨rfl, HBL.out⟩
end Go.Proofs.Ytlfgempjjoclbaa
