/- Contracts: spec.FormatRat. -/
import Derived.Test.YtnpfmmdekjjnjaaGreatDoorPoint
namespace Go.Proofs.YtnpfmmdekjjnjaaGreatDoor
open Go Go.RowKit Pl

def fmtRatO (r : Frac) : List UInt8 := if r.ok then fmtRat r else []

set_option maxHeartbeats 2000000 in
/-- spec.FormatRat. -/
theorem sFormatRat_any (r : Frac) (v : Value) (w : World) (h : RatV w 0 w.heap.size v r) (hs : r.small) :
    Calls Tryz.prog 87 #[v] w fun e w' => e = .returned (Value.string ⟨(fmtRatO r).toArray⟩) ∧ Below w.heap.size w w' := by
  obtain ⟨va, vb, rfl, ha, hb, hneg⟩ := h
  obtain ⟨neg, n, d⟩ := r
  obtain ⟨hn, hd⟩ := hs
  simp only at *
  have hb1 : Below w.heap.size w (w.alloc (.cells #[.bool neg, va, vb] 26)) := (Below.refl _ _).alloc (Nat.le_refl _) _
  have ha1 := Ints.on ha hb1
  have hb1' := Ints.on hb hb1
  have HR := Lib.hid (sRatOk_any ⟨neg, n, d⟩ _ _ ⟨va, vb, rfl, ha1, hb1', hneg⟩ (by show (limbs n).length ≤ _; omega) (by show (limbs d).length ≤ _; omega))
  go_enter Tryz.func87, Tryz.ntmps87
  go_wp2_with fail
  refine HR.out.mono ?_
  rintro e W ⟨rfl, hb2⟩
  have c0 := boxed_on hb2 0
  have c1 := boxed_on hb2 1
  have c2 := boxed_on hb2 2
  simp only [List.getElem?_toArray, List.getElem?_cons_zero, List.getElem?_cons_succ] at c0 c1 c2
  have HA1 := Lib.hid (Ints.on ha1 hb2)
  have HB1 := Lib.hid (Ints.on hb1' hb2)
  have hbw := hb1.trans (hb2.mono hb1.size)
  have hbk : w.heap.size < W.heap.size := Nat.lt_of_lt_of_le (by simp) hb2.size
  have HNEG := Lib.hid hneg
  clear HR ha hb ha1 hb1' hb1 hb2 hneg
  by_cases hok : Frac.ok ⟨neg, n, d⟩
  · have HO := Lib.hid hok
    rw [decide_eq_true hok]
    clear hok
    go_wp2_with fail
    refine (l04One_any d _ _ _ HB1.out).mono ?_
    rintro e w1 ⟨rfl, rfl⟩
    by_cases hd1 : d = 1
    · have HD1 := Lib.hid hd1
      rw [decide_eq_true hd1]
      clear hd1
      have HC := Lib.hid (sFormatBigInt_any neg n va W HA1.out hn HNEG.out)
      go_wp2_with fail
      refine HC.out.mono ?_
      rintro e w2 ⟨rfl, hb2⟩
      go_wp2_with fail
      go_ret
      refine ⟨?_, hbw.trans (hb2.mono hbw.size)⟩
      unfold fmtRatO fmtRat
      rw [if_pos HO.out, if_pos HD1.out]
      rfl
    · have HD1 := Lib.hid hd1
      rw [decide_eq_false hd1]
      clear hd1
      have HCA' := Lib.hid (show ∀ W', Below W.heap.size W W' → Calls Tryz.prog 111 #[.agg #[.bool neg, va]] W' fun e w' => e = .returned (Value.string ⟨(fmtBig neg n).toArray⟩) ∧ Below W.heap.size W w' from fun W' hW =>
        (sFormatBigInt_any neg n va W' (Ints.on HA1.out hW) hn HNEG.out).mono fun e w' ⟨h1, h2⟩ => ⟨h1, hW.trans (h2.mono hW.size)⟩)
      have HCB' := Lib.hid (show ∀ W', Below W.heap.size W W' → Calls Tryz.prog 112 #[vb] W' fun e w' => e = .returned (Value.string ⟨(Lib.decDigits d).toArray⟩) ∧ Below W.heap.size W w' from fun W' hW =>
        (sFormatNat_any d vb W' (Ints.on HB1.out hW) (by omega)).mono fun e w' ⟨h1, h2⟩ => ⟨h1, hW.trans (h2.mono hW.size)⟩)
      have hba := fmtBig_short (neg := neg) hn
      have hbd := dec_short hd
      have hf : Hid (fmtRatO ⟨neg, n, d⟩ = fmtBig neg n ++ ([47] ++ Lib.decDigits d)) := by
        show _ = _
        unfold fmtRatO fmtRat
        rw [if_pos HO.out, if_neg HD1.out]
      generalize fmtBig neg n = sa at *
      generalize Lib.decDigits d = sb at *
      go_wp2_with fail
      go_region_with (first
        | (go_at_call 111
           refine (HCA'.out _ ?_).mono ?_
           · first | exact hb2 | exact hb2.drew | exact (Below.refl _ _).drew | exact Below.refl _ _
           rintro e w2 ⟨rfl, hb2⟩
           have d2 : w2.cell? ⟨w.heap.size, 2, none⟩ = some vb := by rw [hb2.cell hbk]; exact c2)
        | (go_at_call 112
           refine (HCB'.out _ ?_).mono ?_
           · first | exact hb2 | exact hb2.drew | exact (Below.refl _ _).drew | exact Below.refl _ _
           rintro e w2 ⟨rfl, hb2⟩))
      all_goals
        go_wp2_with fail
        go_ret
        exact ⟨congrArg Ending.returned ((str_join3 sa [47] sb).trans (by rw [hf.out])), hbw.trans (hb2.mono hbw.size)⟩
  · have HO := Lib.hid hok
    rw [decide_eq_false hok]
    clear hok
    go_wp2_with fail
    go_ret
    exact ⟨by unfold fmtRatO; rw [if_neg HO.out]; rfl, hbw⟩
end Go.Proofs.YtnpfmmdekjjnjaaGreatDoor
