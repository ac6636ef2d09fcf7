/- Contracts: valid points. -/
import Derived.Test.YtnpfmmdekjjnjaaGreatDoorFmtRat
namespace Go.Proofs.YtnpfmmdekjjnjaaGreatDoor
open Go Go.RowKit Pl

structure Pt where
  x : Frac
  y : Frac
deriving DecidableEq
def Pt.ok (p : Pt) : Prop := p.x.ok ∧ p.y.ok
instance (p : Pt) : Decidable p.ok := by unfold Pt.ok; exact inferInstance
/-- The numbers of a fraction are of at most 60 limbs. -/
def Frac.small (r : Frac) : Prop := (limbs r.num).length ≤ 60 ∧ (limbs r.den).length ≤ 60
def Pt.small (p : Pt) : Prop := p.x.small ∧ p.y.small
theorem Frac.ok.small {r : Frac} (h : r.ok) : r.small := ⟨Nat.le_trans h.2.1 (by decide), Nat.le_trans h.2.2.1 (by decide)⟩
theorem Pt.ok.small {p : Pt} (h : p.ok) : p.small := ⟨h.1.small, h.2.small⟩

theorem RatV.on {w w' : World} {lo : Nat} {v : Value} {r : Frac} (h : RatV w lo w.heap.size v r) (hb : Below w.heap.size w w') : RatV w' lo w'.heap.size v r := by
  obtain ⟨a, b, h1, h2, h3, h4⟩ := h
  exact ⟨a, b, h1, Ints.on h2 hb, Ints.on h3 hb, h4⟩
theorem RatV.wide {w : World} {lo lo' hi hi' : Nat} {v : Value} {r : Frac} (h : RatV w lo hi v r) (h1 : lo' ≤ lo) (h2 : hi ≤ hi') : RatV w lo' hi' v r := by
  obtain ⟨a, b, e, ha, hb, h4⟩ := h
  exact ⟨a, b, e, Ints.wide ha h1 h2, Ints.wide hb h1 h2, h4⟩
/-- A point's value: its six cells. -/
def PtV (w : World) (lo hi : Nat) (v : Value) (p : Pt) : Prop :=
  ∃ a b c d, v = .agg #[.bool p.x.neg, a, b, .bool p.y.neg, c, d] ∧ RatV w lo hi (.agg #[.bool p.x.neg, a, b]) p.x ∧ RatV w lo hi (.agg #[.bool p.y.neg, c, d]) p.y
theorem PtV.on {w w' : World} {lo : Nat} {v : Value} {p : Pt} (h : PtV w lo w.heap.size v p) (hb : Below w.heap.size w w') : PtV w' lo w'.heap.size v p := by
  obtain ⟨a, b, c, d, h1, h2, h3⟩ := h
  exact ⟨a, b, c, d, h1, h2.on hb, h3.on hb⟩
theorem PtV.wide {w : World} {lo lo' hi hi' : Nat} {v : Value} {p : Pt} (h : PtV w lo hi v p) (h1 : lo' ≤ lo) (h2 : hi ≤ hi') : PtV w lo' hi' v p := by
  obtain ⟨a, b, c, d, e, ha, hb⟩ := h
  exact ⟨a, b, c, d, e, ha.wide h1 h2, hb.wide h1 h2⟩

theorem IsValidPoint_any (p : Pt) (v : Value) (w : World) (h : PtV w 0 w.heap.size v p) (hs : p.small) :
    Calls Tryz.prog 79 #[v] w fun e w' => e = .returned (.bool (decide p.ok)) ∧ Below w.heap.size w w' := by
  obtain ⟨va, vb, vc, vd, rfl, hx, hy⟩ := h
  obtain ⟨⟨s1, s2⟩, ⟨s3, s4⟩⟩ := hs
  have hb1 : Below w.heap.size w (w.alloc (.cells #[.bool p.x.neg, va, vb, .bool p.y.neg, vc, vd] 28)) := (Below.refl _ _).alloc (Nat.le_refl _) _
  have HX := Lib.hid (hx.on hb1)
  have HY := Lib.hid (hy.on hb1)
  have HC := Lib.hid (RatOk_any p.x _ _ HX.out (by omega) (by omega))
  go_enter Tryz.func79, Tryz.ntmps79
  go_wp2_with fail
  refine HC.out.mono ?_
  rintro e w1 ⟨rfl, hb2⟩
  have c3 := boxed_on hb2 3
  have c4 := boxed_on hb2 4
  have c5 := boxed_on hb2 5
  simp only [List.getElem?_toArray, List.getElem?_cons_zero, List.getElem?_cons_succ] at c3 c4 c5
  have hbw1 := hb1.trans (hb2.mono hb1.size)
  have HC2 := Lib.hid (RatOk_any p.y _ _ (HY.out.on hb2) (by omega) (by omega))
  by_cases hxo : p.x.ok
  · rw [decide_eq_true hxo]
    go_wp2_with fail
    refine HC2.out.mono ?_
    rintro e w2 ⟨rfl, hb3⟩
    go_wp2_with fail
    go_ret
    exact ret_boolB ⟨fun e => ⟨hxo, of_decide_eq_true e⟩, fun e => decide_eq_true e.2⟩ (hbw1.trans (hb3.mono hbw1.size))
  · rw [decide_eq_false hxo]
    go_wp2_with fail
    go_ret
    exact ret_boolB ⟨fun e => absurd e Bool.false_ne_true, fun e => absurd e.1 hxo⟩ hbw1
theorem sIsValidPoint_any (p : Pt) (v : Value) (w : World) (h : PtV w 0 w.heap.size v p) (hs : p.small) :
    Calls Tryz.prog 63 #[v] w fun e w' => e = .returned (.bool (decide p.ok)) ∧ Below w.heap.size w w' := by
  obtain ⟨va, vb, vc, vd, rfl, hx, hy⟩ := h
  obtain ⟨⟨s1, s2⟩, ⟨s3, s4⟩⟩ := hs
  have hb1 : Below w.heap.size w (w.alloc (.cells #[.bool p.x.neg, va, vb, .bool p.y.neg, vc, vd] 28)) := (Below.refl _ _).alloc (Nat.le_refl _) _
  have HX := Lib.hid (hx.on hb1)
  have HY := Lib.hid (hy.on hb1)
  have HC := Lib.hid (sRatOk_any p.x _ _ HX.out (by omega) (by omega))
  go_enter Tryz.func63, Tryz.ntmps63
  go_wp2_with fail
  refine HC.out.mono ?_
  rintro e w1 ⟨rfl, hb2⟩
  have c3 := boxed_on hb2 3
  have c4 := boxed_on hb2 4
  have c5 := boxed_on hb2 5
  simp only [List.getElem?_toArray, List.getElem?_cons_zero, List.getElem?_cons_succ] at c3 c4 c5
  have hbw1 := hb1.trans (hb2.mono hb1.size)
  have HC2 := Lib.hid (sRatOk_any p.y _ _ (HY.out.on hb2) (by omega) (by omega))
  by_cases hxo : p.x.ok
  · rw [decide_eq_true hxo]
    go_wp2_with fail
    refine HC2.out.mono ?_
    rintro e w2 ⟨rfl, hb3⟩
    go_wp2_with fail
    go_ret
    exact ret_boolB ⟨fun e => ⟨hxo, of_decide_eq_true e⟩, fun e => decide_eq_true e.2⟩ (hbw1.trans (hb3.mono hbw1.size))
  · rw [decide_eq_false hxo]
    go_wp2_with fail
    go_ret
    exact ret_boolB ⟨fun e => absurd e Bool.false_ne_true, fun e => absurd e.1 hxo⟩ hbw1

/-- What arePoints asks of each point. -/
theorem arePoints1_any (p : Pt) (v : Value) (w : World) (h : PtV w 0 w.heap.size v p) (hs : p.small) :
    Calls Tryz.prog 78 #[v] w fun e w' => e = .returned (.bool (!decide p.ok)) ∧ Below w.heap.size w w' := by
  obtain ⟨va, vb, vc, vd, rfl, hx, hy⟩ := h
  have hb1 : Below w.heap.size w (w.alloc (.cells #[.bool p.x.neg, va, vb, .bool p.y.neg, vc, vd] 28)) := (Below.refl _ _).alloc (Nat.le_refl _) _
  have HC := Lib.hid (IsValidPoint_any p _ _ ⟨va, vb, vc, vd, rfl, hx.on hb1, hy.on hb1⟩ hs)
  go_enter Tryz.func78, Tryz.ntmps78
  go_wp2_with fail
  refine HC.out.mono ?_
  rintro e w1 ⟨rfl, hb2⟩
  generalize hq : decide p.ok = q
  have HQ := Lib.hid hq
  clear hq
  go_wp2_with fail
  go_ret
  exact ⟨by rw [HQ.out]; rfl, hb1.trans (hb2.mono hb1.size)⟩

theorem indexPoints_any (p : Pt) (va vb vc vd : Value) (w : World) (h : PtV w 0 w.heap.size (.agg #[.bool p.x.neg, va, vb, .bool p.y.neg, vc, vd]) p) (hs : p.small) (b : Nat)
    (c0 : w.cell? ⟨b, 0, none⟩ = some (.bool p.x.neg)) (c1 : w.cell? ⟨b, 1, none⟩ = some va) (c2 : w.cell? ⟨b, 2, none⟩ = some vb) (c3 : w.cell? ⟨b, 3, none⟩ = some (.bool p.y.neg)) (c4 : w.cell? ⟨b, 4, none⟩ = some vc) (c5 : w.cell? ⟨b, 5, none⟩ = some vd) :
    Calls Tryz.prog 102 #[.slice (some ⟨b, 0, none⟩) 1 1, .func (.func 78) #[] #[]] w fun e w' =>
      e = .returned (.int .i64 (if p.ok then -1 else 0)) ∧ Below w.heap.size w w' := by
  have HC := Lib.hid (arePoints1_any p _ w h hs)
  go_enter Tryz.func102, Tryz.ntmps102
  go_wp2_with fail
  go_loopw [8] (fun iv wr => (iv = .int .i64 0 ∧ wr = w) ∨ (iv = .int .i64 1 ∧ Hid p.ok ∧ Below w.heap.size w wr)) (fun iv _ => (1 - intOf iv).toNat)
  case atStart => exact .inl ⟨rfl, rfl⟩
  case round =>
    rcases hrel with ⟨rfl, rfl⟩ | ⟨rfl, hok, hbel⟩
    · go_wp2_with fail
      refine HC.out.mono ?_
      rintro e w1 ⟨rfl, hb2⟩
      by_cases hok : p.ok
      · rw [decide_eq_true hok]
        have HO := Lib.hid hok
        clear hok
        go_wp2_with fail
        go_roundw
        case rel => exact .inr ⟨rfl, HO, hb2⟩
        case measure => simp only [intOf]; omega
      · rw [decide_eq_false hok]
        have HO := Lib.hid hok
        clear hok
        go_wp2_with fail
        go_ret
        exact ⟨by first | rfl | (rw [if_neg HO.out]; rfl), hb2⟩
    · go_wp2_with fail
      go_ret
      exact ⟨by first | rfl | (rw [if_pos hok.out]; rfl), hbel⟩

/-- arePoints of one point. -/
theorem arePoints_any (p : Pt) (va vb vc vd : Value) (w : World) (h : PtV w 0 w.heap.size (.agg #[.bool p.x.neg, va, vb, .bool p.y.neg, vc, vd]) p) (hs : p.small) (b : Nat)
    (c0 : w.cell? ⟨b, 0, none⟩ = some (.bool p.x.neg)) (c1 : w.cell? ⟨b, 1, none⟩ = some va) (c2 : w.cell? ⟨b, 2, none⟩ = some vb) (c3 : w.cell? ⟨b, 3, none⟩ = some (.bool p.y.neg)) (c4 : w.cell? ⟨b, 4, none⟩ = some vc) (c5 : w.cell? ⟨b, 5, none⟩ = some vd) :
    Calls Tryz.prog 47 #[.slice (some ⟨b, 0, none⟩) 1 1] w fun e w' => e = .returned (.bool (decide p.ok)) ∧ Below w.heap.size w w' := by
  have HC := Lib.hid (indexPoints_any p va vb vc vd w h hs b c0 c1 c2 c3 c4 c5)
  have HF : Hid (Calls Tryz.prog 77 #[.slice (some ⟨b, 0, none⟩) 1 1, .func (.func 78) #[] #[]] w fun e w' =>
      e = .returned (.bool (!decide p.ok)) ∧ Below w.heap.size w w') := by
    show Calls _ _ _ _ _
    go_enter Tryz.func77, Tryz.ntmps77
    go_wp2_with fail
    refine HC.out.mono ?_
    rintro e w1 ⟨rfl, hb2⟩
    by_cases hok : p.ok
    · rw [if_pos hok]
      have HO := Lib.hid hok
      clear hok
      go_wp2_with fail
      go_ret
      exact ⟨by rw [decide_eq_true HO.out]; rfl, hb2⟩
    · rw [if_neg hok]
      have HO := Lib.hid hok
      clear hok
      go_wp2_with fail
      go_ret
      exact ⟨by rw [decide_eq_false HO.out]; rfl, hb2⟩
  clear HC
  go_enter Tryz.func47, Tryz.ntmps47
  go_wp2_with fail
  refine HF.out.mono ?_
  rintro e w1 ⟨rfl, hb2⟩
  generalize hq : decide p.ok = q
  have HQ := Lib.hid hq
  clear hq
  go_wp2_with fail
  go_ret
  exact ⟨by rw [HQ.out]; simp, hb2⟩
end Go.Proofs.YtnpfmmdekjjnjaaGreatDoor
