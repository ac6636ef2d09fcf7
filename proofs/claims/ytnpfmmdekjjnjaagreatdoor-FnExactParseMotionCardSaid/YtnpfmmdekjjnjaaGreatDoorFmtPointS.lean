/- Contracts: spec.FormatPoint. -/
import Derived.Test.YtnpfmmdekjjnjaaGreatDoorFmtPoint
import Derived.Test.YtnpfmmdekjjnjaaGreatDoorFmtRatS
namespace Go.Proofs.YtnpfmmdekjjnjaaGreatDoor
open Go Go.RowKit Pl

set_option maxHeartbeats 2000000 in
/-- spec.FormatPoint. -/
theorem sFormatPoint_any (p : Pt) (v : Value) (w : World) (h : PtV w 0 w.heap.size v p) (hs : p.small) :
    Calls Tryz.prog 65 #[v] w fun e w' => e = .returned (Value.string ⟨(fmtPtO p).toArray⟩) ∧ Below w.heap.size w w' := by
  obtain ⟨va, vb, vc, vd, rfl, hx, hy⟩ := h
  have hb1 : Below w.heap.size w (w.alloc (.cells #[.bool p.x.neg, va, vb, .bool p.y.neg, vc, vd] 28)) := (Below.refl _ _).alloc (Nat.le_refl _) _
  have HX := Lib.hid hx
  have HY := Lib.hid hy
  have HC := Lib.hid (sIsValidPoint_any p _ _ ⟨va, vb, vc, vd, rfl, hx.on hb1, hy.on hb1⟩ hs)
  clear hx hy
  go_enter Tryz.func65, Tryz.ntmps65
  go_wp2_with fail
  refine HC.out.mono ?_
  rintro e W ⟨rfl, hb2⟩
  have d0 := boxed_on hb2 0
  have d1 := boxed_on hb2 1
  have d2 := boxed_on hb2 2
  have d3 := boxed_on hb2 3
  have d4 := boxed_on hb2 4
  have d5 := boxed_on hb2 5
  simp only [List.getElem?_toArray, List.getElem?_cons_zero, List.getElem?_cons_succ] at d0 d1 d2 d3 d4 d5
  have hbw := hb1.trans (hb2.mono hb1.size)
  have hbk : w.heap.size < W.heap.size := Nat.lt_of_lt_of_le (by simp) hb2.size
  have HX2 := Lib.hid (HX.out.on hbw)
  have HY2 := Lib.hid (HY.out.on hbw)
  clear HC HX HY hb1 hb2
  by_cases hok : p.ok
  · have HO := Lib.hid hok
    rw [decide_eq_true hok]
    clear hok
    have HCA' := Lib.hid (show ∀ W', Below W.heap.size W W' → Calls Tryz.prog 87 #[.agg #[.bool p.x.neg, va, vb]] W' fun e w' => e = .returned (Value.string ⟨(fmtRat p.x).toArray⟩) ∧ Below W.heap.size W w' from fun W' hW =>
      (sFormatRat_any p.x _ W' (HX2.out.on hW) hs.1).mono fun e w' ⟨h1, h2⟩ => ⟨by rw [h1]; unfold fmtRatO; rw [if_pos HO.out.1], hW.trans (h2.mono hW.size)⟩)
    have HCB' := Lib.hid (show ∀ W', Below W.heap.size W W' → Calls Tryz.prog 87 #[.agg #[.bool p.y.neg, vc, vd]] W' fun e w' => e = .returned (Value.string ⟨(fmtRat p.y).toArray⟩) ∧ Below W.heap.size W w' from fun W' hW =>
      (sFormatRat_any p.y _ W' (HY2.out.on hW) hs.2).mono fun e w' ⟨h1, h2⟩ => ⟨by rw [h1]; unfold fmtRatO; rw [if_pos HO.out.2], hW.trans (h2.mono hW.size)⟩)
    have hba := fmtRat_short hs.1
    have hbd := fmtRat_short hs.2
    have hf : Hid (fmtPtO p = fmtRat p.x ++ ([44] ++ fmtRat p.y)) := by
      show _ = _
      unfold fmtPtO fmtPt
      rw [if_pos HO.out]
    generalize fmtRat p.x = sa at *
    generalize fmtRat p.y = sb at *
    go_wp2_with fail
    go_region_with (first
      | (go_at_call_of 87 (Value.agg #[.bool p.x.neg, va, vb])
         refine (HCA'.out _ ?_).mono ?_
         · first | exact hb2 | exact hb2.drew | exact (Below.refl _ _).drew | exact Below.refl _ _
         rintro e w2 ⟨rfl, hb2⟩
         have f3 : w2.cell? ⟨w.heap.size, 3, none⟩ = some (.bool p.y.neg) := by rw [hb2.cell hbk]; exact d3
         have f4 : w2.cell? ⟨w.heap.size, 4, none⟩ = some vc := by rw [hb2.cell hbk]; exact d4
         have f5 : w2.cell? ⟨w.heap.size, 5, none⟩ = some vd := by rw [hb2.cell hbk]; exact d5)
      | (go_at_call_of 87 (Value.agg #[.bool p.y.neg, vc, vd])
         refine (HCB'.out _ ?_).mono ?_
         · first | exact hb2 | exact hb2.drew | exact (Below.refl _ _).drew | exact Below.refl _ _
         rintro e w2 ⟨rfl, hb2⟩))
    all_goals
      go_wp2_with fail
      go_ret
      exact ⟨congrArg Ending.returned ((str_join3 sa [44] sb).trans (by rw [hf.out])), hbw.trans (hb2.mono hbw.size)⟩
  · have HO := Lib.hid hok
    rw [decide_eq_false hok]
    clear hok
    go_wp2_with fail
    go_ret
    exact ⟨by unfold fmtPtO; rw [if_neg HO.out]; rfl, hbw⟩
end Go.Proofs.YtnpfmmdekjjnjaaGreatDoor
