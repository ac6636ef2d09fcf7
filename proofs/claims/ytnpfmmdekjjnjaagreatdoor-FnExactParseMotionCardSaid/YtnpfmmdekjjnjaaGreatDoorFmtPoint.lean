/- Contracts: impl.FormatPoint. -/
import Derived.Test.YtnpfmmdekjjnjaaGreatDoorPoint
namespace Go.Proofs.YtnpfmmdekjjnjaaGreatDoor
open Go Go.RowKit Pl

def fmtPt (p : Pt) : List UInt8 := fmtRat p.x ++ ([44] ++ fmtRat p.y)
def fmtPtO (p : Pt) : List UInt8 := if p.ok then fmtPt p else []
theorem fmtRat_short {r : Frac} (h : r.small) : (fmtRat r).length ≤ 1300 := by
  obtain ⟨h1, h2⟩ := h
  have := fmtBig_short (neg := r.neg) h1
  have := dec_short h2
  unfold fmtRat
  split
  · omega
  · rw [List.length_append, List.length_append, List.length_singleton]; omega

/-- What arePoints leaves when it is asked of a point that lies in a box. -/
theorem boxes_any (p : Pt) (va vb vc vd : Value) (w : World) (hx : RatV w 0 w.heap.size (.agg #[.bool p.x.neg, va, vb]) p.x) (hy : RatV w 0 w.heap.size (.agg #[.bool p.y.neg, vc, vd]) p.y) (hs : p.small) :
    Calls Tryz.prog 47 #[.slice (some ⟨w.heap.size + 1, 0, none⟩) 1 1] ((w.alloc (.cells #[.bool p.x.neg, va, vb, .bool p.y.neg, vc, vd] 28)).alloc (.cells #[.bool p.x.neg, va, vb, .bool p.y.neg, vc, vd] 28)) fun e W => e = .returned (.bool (decide p.ok)) ∧ Below w.heap.size w W ∧ w.heap.size < W.heap.size ∧
      W.cell? ⟨w.heap.size, 0, none⟩ = some (.bool p.x.neg) ∧ W.cell? ⟨w.heap.size, 1, none⟩ = some va ∧ W.cell? ⟨w.heap.size, 2, none⟩ = some vb ∧ W.cell? ⟨w.heap.size, 3, none⟩ = some (.bool p.y.neg) ∧ W.cell? ⟨w.heap.size, 4, none⟩ = some vc ∧ W.cell? ⟨w.heap.size, 5, none⟩ = some vd := by
  have c0 := boxed w #[.bool p.x.neg, va, vb, .bool p.y.neg, vc, vd] 28 0
  have c1 := boxed w #[.bool p.x.neg, va, vb, .bool p.y.neg, vc, vd] 28 1
  have c2 := boxed w #[.bool p.x.neg, va, vb, .bool p.y.neg, vc, vd] 28 2
  have c3 := boxed w #[.bool p.x.neg, va, vb, .bool p.y.neg, vc, vd] 28 3
  have c4 := boxed w #[.bool p.x.neg, va, vb, .bool p.y.neg, vc, vd] 28 4
  have c5 := boxed w #[.bool p.x.neg, va, vb, .bool p.y.neg, vc, vd] 28 5
  have hb0 : Below w.heap.size w (w.alloc (.cells #[.bool p.x.neg, va, vb, .bool p.y.neg, vc, vd] 28)) := (Below.refl _ _).alloc (Nat.le_refl _) _
  have hsz : w.heap.size + 1 = (w.alloc (.cells #[.bool p.x.neg, va, vb, .bool p.y.neg, vc, vd] 28)).heap.size := by simp
  rw [hsz]
  generalize w.alloc (.cells #[.bool p.x.neg, va, vb, .bool p.y.neg, vc, vd] 28) = W0 at *
  have hb1 : Below W0.heap.size W0 (W0.alloc (.cells #[.bool p.x.neg, va, vb, .bool p.y.neg, vc, vd] 28)) := (Below.refl _ _).alloc (Nat.le_refl _) _
  have hx1 := (hx.on hb0).on hb1
  have hy1 := (hy.on hb0).on hb1
  have e0 := boxed W0 #[.bool p.x.neg, va, vb, .bool p.y.neg, vc, vd] 28 0
  have e1 := boxed W0 #[.bool p.x.neg, va, vb, .bool p.y.neg, vc, vd] 28 1
  have e2 := boxed W0 #[.bool p.x.neg, va, vb, .bool p.y.neg, vc, vd] 28 2
  have e3 := boxed W0 #[.bool p.x.neg, va, vb, .bool p.y.neg, vc, vd] 28 3
  have e4 := boxed W0 #[.bool p.x.neg, va, vb, .bool p.y.neg, vc, vd] 28 4
  have e5 := boxed W0 #[.bool p.x.neg, va, vb, .bool p.y.neg, vc, vd] 28 5
  refine (arePoints_any p va vb vc vd _ ⟨va, vb, vc, vd, rfl, hx1, hy1⟩ hs W0.heap.size e0 e1 e2 e3 e4 e5).mono ?_
  rintro e W ⟨he, hb2⟩
  have hb3 : Below W0.heap.size W0 W := hb1.trans (hb2.mono hb1.size)
  have hlt : w.heap.size < W0.heap.size := by omega
  exact ⟨he, hb0.trans (hb3.mono hb0.size), Nat.lt_of_lt_of_le hlt hb3.size, (hb3.cell hlt).trans c0, (hb3.cell hlt).trans c1, (hb3.cell hlt).trans c2, (hb3.cell hlt).trans c3, (hb3.cell hlt).trans c4, (hb3.cell hlt).trans c5⟩

set_option maxHeartbeats 2000000 in
/-- impl.FormatPoint. -/
theorem FormatPoint_any (p : Pt) (v : Value) (B : Nat) (w : World) (hw : Std B w) (h : PtV w 0 w.heap.size v p) (hs : p.small) :
    Calls Tryz.prog 48 #[v] w fun e w' => e = .returned (Value.string ⟨(fmtPtO p).toArray⟩) ∧ Below w.heap.size w w' := by
  obtain ⟨va, vb, vc, vd, rfl, hx, hy⟩ := h
  have HC := Lib.hid (boxes_any p va vb vc vd w hx hy hs)
  have HX := Lib.hid hx
  have HY := Lib.hid hy
  have HW := Lib.hid hw
  clear hx hy hw
  go_enter Tryz.func48, Tryz.ntmps48
  go_wp2_with fail
  refine HC.out.mono ?_
  rintro e W ⟨rfl, hbw, hbk, d0, d1, d2, d3, d4, d5⟩
  have HX2 := Lib.hid (HX.out.on hbw)
  have HY2 := Lib.hid (HY.out.on hbw)
  have HW2 := Lib.hid (HW.out.on hbw)
  clear HC HX HY HW
  by_cases hok : p.ok
  · have HO := Lib.hid hok
    rw [decide_eq_true hok]
    clear hok
    have HCA' := Lib.hid (show ∀ W', Below W.heap.size W W' → Calls Tryz.prog 80 #[.agg #[.bool p.x.neg, va, vb]] W' fun e w' => e = .returned (Value.string ⟨(fmtRat p.x).toArray⟩) ∧ Below W.heap.size W w' from fun W' hW =>
      (formatRat_any p.x _ B W' (HW2.out.on hW) (HX2.out.on hW) hs.1.1 hs.1.2).mono fun e w' ⟨h1, h2⟩ => ⟨h1, hW.trans (h2.mono hW.size)⟩)
    have HCB' := Lib.hid (show ∀ W', Below W.heap.size W W' → Calls Tryz.prog 80 #[.agg #[.bool p.y.neg, vc, vd]] W' fun e w' => e = .returned (Value.string ⟨(fmtRat p.y).toArray⟩) ∧ Below W.heap.size W w' from fun W' hW =>
      (formatRat_any p.y _ B W' (HW2.out.on hW) (HY2.out.on hW) hs.2.1 hs.2.2).mono fun e w' ⟨h1, h2⟩ => ⟨h1, hW.trans (h2.mono hW.size)⟩)
    have hba := fmtRat_short hs.1
    have hbd := fmtRat_short hs.2
    have hf : Hid (fmtPtO p = fmtRat p.x ++ ([44] ++ fmtRat p.y)) := by
      show _ = _
      unfold fmtPtO fmtPt
      rw [if_pos HO.out]
    generalize fmtRat p.x = sa at *
    generalize fmtRat p.y = sb at *
    go_wp2_with fail
    go_region_with (first
      | (go_at_call_of 80 (Value.agg #[.bool p.x.neg, va, vb])
         refine (HCA'.out _ ?_).mono ?_
         · first | exact hb2 | exact hb2.drew | exact (Below.refl _ _).drew | exact Below.refl _ _
         rintro e w2 ⟨rfl, hb2⟩
         have f3 : w2.cell? ⟨w.heap.size, 3, none⟩ = some (.bool p.y.neg) := by rw [hb2.cell hbk]; exact d3
         have f4 : w2.cell? ⟨w.heap.size, 4, none⟩ = some vc := by rw [hb2.cell hbk]; exact d4
         have f5 : w2.cell? ⟨w.heap.size, 5, none⟩ = some vd := by rw [hb2.cell hbk]; exact d5)
      | (go_at_call_of 80 (Value.agg #[.bool p.y.neg, vc, vd])
         refine (HCB'.out _ ?_).mono ?_
         · first | exact hb2 | exact hb2.drew | exact (Below.refl _ _).drew | exact Below.refl _ _
         rintro e w2 ⟨rfl, hb2⟩))
    all_goals
      go_wp2_with fail
      go_ret
      exact ⟨congrArg Ending.returned ((str_join3 sa [44] sb).trans (by rw [hf.out])), hbw.trans (hb2.mono hbw.size)⟩
  · have HO := Lib.hid hok
    rw [decide_eq_false hok]
    clear hok
    go_wp2_with fail
    go_ret
    exact ⟨by unfold fmtPtO; rw [if_neg HO.out]; rfl, hbw⟩
end Go.Proofs.YtnpfmmdekjjnjaaGreatDoor
