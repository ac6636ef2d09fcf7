/- Contracts: valid fractions. -/
import Derived.Test.YtnpfmmdekjjnjaaGreatDoorGcd
namespace Go.Proofs.YtnpfmmdekjjnjaaGreatDoor
open Go Go.RowKit Pl

theorem ret_boolB {b : Bool} {P : Prop} [Decidable P] {w w' : World} {B : Nat} (h : b = true ↔ P) (hd : Below B w w') : Ending.returned (.bool b) = Ending.returned (.bool (decide P)) ∧ Below B w w' := ⟨(ret_bool (w := w) h).1, hd⟩

/-- impl.BigIntOk of a number in canonical form. -/
theorem BigIntOk_any (neg : Bool) (n : Nat) (v : Value) (w : World) (h : NatV w 0 w.heap.size v n) (hneg : neg = true → 0 < n) :
    Calls Tryz.prog 121 #[.agg #[.bool neg, v]] w fun e w' => e = .returned (.bool (decide ((limbs n).length ≤ 60))) ∧ Below w.heap.size w w' := by
  have HN : neg = true → 0 < (limbs n).length := fun e => limbs_length_pos.2 (hneg e)
  unfold NatV at h
  obtain ⟨p, c, rfl, _, _⟩ := h.form
  have hb1 : Below w.heap.size w (w.alloc (.cells #[.bool neg, .slice p (limbs n).length c] 24)) := (Below.refl _ _).alloc (Nat.le_refl _) _
  have HH := Lib.hid (Ints.below h hb1 (Nat.le_refl _))
  go_enter Tryz.func121, Tryz.ntmps121
  go_wp2_with fail
  refine (NatOk_any n _ _ _ HH.out).mono ?_
  rintro e w1 ⟨rfl, j, rfl⟩
  have hb2 := hb1.trans ((below_drewN _ j).mono hb1.size)
  by_cases h60 : (limbs n).length ≤ 60
  · rw [decide_eq_true h60]
    cases neg with
    | false =>
      go_wp2_with fail
      go_ret
      exact ret_boolB ⟨fun _ => h60, fun _ => rfl⟩ hb2
    | true =>
      have h0 := HN rfl
      go_wp2_with fail
      go_ret
      exact ret_boolB ⟨fun _ => h60, fun _ => by first | (rw [show (((limbs n).length : Int) == 0) = false from beq_eq_false_iff_ne.2 (by omega)]; rfl) | (simp; done) | (simp; omega)⟩ hb2
  · rw [decide_eq_false h60]
    go_wp2_with fail
    go_ret
    exact ret_boolB ⟨fun e => absurd e Bool.false_ne_true, fun e => absurd e h60⟩ hb2
/-- spec.BigIntOk of a number in canonical form. -/
theorem sBigIntOk_any (neg : Bool) (n : Nat) (v : Value) (w : World) (h : NatV w 0 w.heap.size v n) (hneg : neg = true → 0 < n) :
    Calls Tryz.prog 113 #[.agg #[.bool neg, v]] w fun e w' => e = .returned (.bool (decide ((limbs n).length ≤ 60))) ∧ Below w.heap.size w w' := by
  have HN : neg = true → 0 < (limbs n).length := fun e => limbs_length_pos.2 (hneg e)
  unfold NatV at h
  obtain ⟨p, c, rfl, _, _⟩ := h.form
  have hb1 : Below w.heap.size w (w.alloc (.cells #[.bool neg, .slice p (limbs n).length c] 24)) := (Below.refl _ _).alloc (Nat.le_refl _) _
  have HH := Lib.hid (Ints.below h hb1 (Nat.le_refl _))
  go_enter Tryz.func113, Tryz.ntmps113
  go_wp2_with fail
  refine (sNatOk_any n _ _ _ HH.out).mono ?_
  rintro e w1 ⟨rfl, j, rfl⟩
  have hb2 := hb1.trans ((below_drewN _ j).mono hb1.size)
  by_cases h60 : (limbs n).length ≤ 60
  · rw [decide_eq_true h60]
    cases neg with
    | false =>
      go_wp2_with fail
      go_ret
      exact ret_boolB ⟨fun _ => h60, fun _ => rfl⟩ hb2
    | true =>
      have h0 := HN rfl
      go_wp2_with fail
      go_ret
      exact ret_boolB ⟨fun _ => h60, fun _ => by first | (rw [show (((limbs n).length : Int) == 0) = false from beq_eq_false_iff_ne.2 (by omega)]; rfl) | (simp; done) | (simp; omega)⟩ hb2
  · rw [decide_eq_false h60]
    go_wp2_with fail
    go_ret
    exact ret_boolB ⟨fun e => absurd e Bool.false_ne_true, fun e => absurd e h60⟩ hb2

theorem boxed (w : World) (cs : Array Value) (e : TypeId) (i : Nat) : (w.alloc (.cells cs e)).cell? ⟨w.heap.size, i, none⟩ = cs[i]? := cell_of_row _ w.heap.size i cs e (0, 0) (heap_alloc_new w _)
/-- What lies in a box behind a call. -/
theorem boxed_on {w w1 : World} {cs : Array Value} {e : TypeId} (h : Below (w.alloc (.cells cs e)).heap.size (w.alloc (.cells cs e)) w1) (i : Nat) : w1.cell? ⟨w.heap.size, i, none⟩ = cs[i]? := by
  rw [h.cell (by simp), boxed]

/-- What a valid fraction is: a sign, a number, a number. -/
structure Frac where
  neg : Bool
  num : Nat
  den : Nat
deriving DecidableEq

def Frac.ok (r : Frac) : Prop := 0 < r.den ∧ (limbs r.num).length ≤ 24 ∧ (limbs r.den).length ≤ 24 ∧ Nat.gcd r.num r.den = 1
instance (r : Frac) : Decidable r.ok := by unfold Frac.ok; exact inferInstance

/-- The value of a fraction: its slices lie from lo to hi. -/
def RatV (w : World) (lo hi : Nat) (v : Value) (r : Frac) : Prop :=
  ∃ a b, v = .agg #[.bool r.neg, a, b] ∧ NatV w lo hi a r.num ∧ NatV w lo hi b r.den ∧ (r.neg = true → 0 < r.num)

theorem gcd_one_of {n d : Nat} (h : d = 1) : Nat.gcd n d = 1 := by rw [h, Nat.gcd_one_right]

/-- impl.RatOk of a fraction in canonical form. -/
theorem RatOk_any (r : Frac) (v : Value) (w : World) (h : RatV w 0 w.heap.size v r) (h1 : (limbs r.num).length ≤ 200) (h2 : (limbs r.den).length ≤ 200) :
    Calls Tryz.prog 92 #[v] w fun e w' => e = .returned (.bool (decide r.ok)) ∧ Below w.heap.size w w' := by
  obtain ⟨va, vb, rfl, ha, hb, hneg⟩ := h
  obtain ⟨neg, n, d⟩ := r
  simp only at *
  unfold NatV at ha hb
  obtain ⟨p, c, rfl, _, _⟩ := ha.form
  obtain ⟨q, e, rfl, _, _⟩ := hb.form
  have hb1 : Below w.heap.size w (w.alloc (.cells #[.bool neg, .slice p (limbs n).length c, .slice q (limbs d).length e] 26)) := (Below.refl _ _).alloc (Nat.le_refl _) _
  have HA := Lib.hid (Ints.on ha hb1)
  have HB := Lib.hid (Ints.on hb hb1)
  have HNEG := Lib.hid hneg
  clear hneg
  go_enter Tryz.func92, Tryz.ntmps92
  go_wp2_with fail
  refine (BigIntOk_any neg n _ _ HA.out HNEG.out).mono ?_
  rintro e1 w1 ⟨rfl, hb2⟩
  have hbw1 := hb1.trans (hb2.mono hb1.size)
  have c0 := boxed_on hb2 0
  have c1 := boxed_on hb2 1
  have c2 := boxed_on hb2 2
  simp only [List.getElem?_toArray, List.getElem?_cons_zero, List.getElem?_cons_succ] at c0 c1 c2
  have HA1 := Lib.hid (Ints.on HA.out hb2)
  have HB1 := Lib.hid (Ints.on HB.out hb2)
  by_cases h60 : (limbs n).length ≤ 60
  · rw [decide_eq_true h60]
    go_wp2_with fail
    refine (NatOk_any d _ _ _ HB1.out).mono ?_
    rintro e1 w2 ⟨rfl, hd2⟩
    have hbw2 := hbw1.trans (hd2.below.mono hbw1.size)
    have c0' : w2.cell? ⟨w.heap.size, 0, none⟩ = some (.bool neg) := by obtain ⟨j, rfl⟩ := hd2; exact c0
    have c1' : w2.cell? ⟨w.heap.size, 1, none⟩ = some (.slice p (limbs n).length c) := by obtain ⟨j, rfl⟩ := hd2; exact c1
    have c2' : w2.cell? ⟨w.heap.size, 2, none⟩ = some (.slice q (limbs d).length e) := by obtain ⟨j, rfl⟩ := hd2; exact c2
    have HA2 := Lib.hid (Ints.on HA1.out hd2.below)
    have HB2 := Lib.hid (Ints.on HB1.out hd2.below)
    clear c0 c1 c2
    by_cases d60 : (limbs d).length ≤ 60
    · rw [decide_eq_true d60]
      by_cases d0 : (limbs d).length = 0
      · have D0 : Hid (d = 0) := limbs_nil_iff.1 (List.eq_nil_of_length_eq_zero d0)
        go_wp2_with fail
        go_ret
        exact ret_boolB ⟨fun e => absurd e Bool.false_ne_true, fun e => absurd e.1 (by show ¬ 0 < d; rw [D0.out]; omega)⟩ hbw2
      · by_cases n24 : 24 < (limbs n).length
        · go_wp2_with fail
          go_ret
          exact ret_boolB ⟨fun e => absurd e Bool.false_ne_true, fun e => absurd e.2.1 (by show ¬ (limbs n).length ≤ 24; omega)⟩ hbw2
        · by_cases d24 : 24 < (limbs d).length
          · go_wp2_with fail
            go_ret
            exact ret_boolB ⟨fun e => absurd e Bool.false_ne_true, fun e => absurd e.2.2.1 (by show ¬ (limbs d).length ≤ 24; omega)⟩ hbw2
          · have hd0 : Hid (0 < d) := limbs_length_pos.1 (by omega)
            have hz : (((limbs d).length : Int) == 0) = false := beq_eq_false_iff_ne.2 (by omega)
            go_wp2_with fail
            refine (isOne_any d _ _ _ HB2.out).mono ?_
            rintro e1 w3 ⟨rfl, rfl⟩
            by_cases d1 : d = 1
            · have D1 := Lib.hid d1
              rw [decide_eq_true d1]
              clear d1
              go_wp2_with fail
              go_ret
              exact ret_boolB ⟨fun _ => ⟨hd0.out, by show (limbs n).length ≤ 24; omega, by show (limbs d).length ≤ 24; omega, gcd_one_of D1.out⟩, fun _ => rfl⟩ hbw2
            · rw [decide_eq_false d1]
              go_wp2_with fail
              refine (natGcd_any n d _ _ _ HA2.out HB2.out h1 h2).mono ?_
              rintro e1 w4 ⟨v4, rfl, hv4, hb4⟩
              have hbw4 := hbw2.trans (hb4.mono hbw2.size)
              go_wp2_with fail
              refine (isOne_any _ _ _ _ hv4).mono ?_
              rintro e1 w5 ⟨rfl, rfl⟩
              go_wp2_with fail
              go_ret
              exact ret_boolB ⟨fun e => ⟨hd0.out, by show (limbs n).length ≤ 24; omega, by show (limbs d).length ≤ 24; omega, of_decide_eq_true e⟩, fun e => decide_eq_true e.2.2.2⟩ hbw4
    · rw [decide_eq_false d60]
      go_wp2_with fail
      go_ret
      exact ret_boolB ⟨fun e => absurd e Bool.false_ne_true, fun e => absurd e.2.2.1 (by show ¬ (limbs d).length ≤ 24; omega)⟩ hbw2
  · rw [decide_eq_false h60]
    go_wp2_with fail
    go_ret
    exact ret_boolB ⟨fun e => absurd e Bool.false_ne_true, fun e => absurd e.2.1 (by show ¬ (limbs n).length ≤ 24; omega)⟩ hbw1

/-- spec.RatOk of a fraction in canonical form. -/
theorem sRatOk_any (r : Frac) (v : Value) (w : World) (h : RatV w 0 w.heap.size v r) (h1 : (limbs r.num).length ≤ 200) (h2 : (limbs r.den).length ≤ 200) :
    Calls Tryz.prog 88 #[v] w fun e w' => e = .returned (.bool (decide r.ok)) ∧ Below w.heap.size w w' := by
  obtain ⟨va, vb, rfl, ha, hb, hneg⟩ := h
  obtain ⟨neg, n, d⟩ := r
  simp only at *
  unfold NatV at ha hb
  obtain ⟨p, c, rfl, _, _⟩ := ha.form
  obtain ⟨q, e, rfl, _, _⟩ := hb.form
  have hb1 : Below w.heap.size w (w.alloc (.cells #[.bool neg, .slice p (limbs n).length c, .slice q (limbs d).length e] 26)) := (Below.refl _ _).alloc (Nat.le_refl _) _
  have HA := Lib.hid (Ints.on ha hb1)
  have HB := Lib.hid (Ints.on hb hb1)
  have HNEG := Lib.hid hneg
  clear hneg
  go_enter Tryz.func88, Tryz.ntmps88
  go_wp2_with fail
  refine (sBigIntOk_any neg n _ _ HA.out HNEG.out).mono ?_
  rintro e1 w1 ⟨rfl, hb2⟩
  have hbw1 := hb1.trans (hb2.mono hb1.size)
  have c0 := boxed_on hb2 0
  have c1 := boxed_on hb2 1
  have c2 := boxed_on hb2 2
  simp only [List.getElem?_toArray, List.getElem?_cons_zero, List.getElem?_cons_succ] at c0 c1 c2
  have HA1 := Lib.hid (Ints.on HA.out hb2)
  have HB1 := Lib.hid (Ints.on HB.out hb2)
  by_cases h60 : (limbs n).length ≤ 60
  · rw [decide_eq_true h60]
    go_wp2_with fail
    refine (sNatOk_any d _ _ _ HB1.out).mono ?_
    rintro e1 w2 ⟨rfl, hd2⟩
    have hbw2 := hbw1.trans (hd2.below.mono hbw1.size)
    have c0' : w2.cell? ⟨w.heap.size, 0, none⟩ = some (.bool neg) := by obtain ⟨j, rfl⟩ := hd2; exact c0
    have c1' : w2.cell? ⟨w.heap.size, 1, none⟩ = some (.slice p (limbs n).length c) := by obtain ⟨j, rfl⟩ := hd2; exact c1
    have c2' : w2.cell? ⟨w.heap.size, 2, none⟩ = some (.slice q (limbs d).length e) := by obtain ⟨j, rfl⟩ := hd2; exact c2
    have HA2 := Lib.hid (Ints.on HA1.out hd2.below)
    have HB2 := Lib.hid (Ints.on HB1.out hd2.below)
    clear c0 c1 c2
    by_cases d60 : (limbs d).length ≤ 60
    · rw [decide_eq_true d60]
      by_cases d0 : (limbs d).length = 0
      · have D0 : Hid (d = 0) := limbs_nil_iff.1 (List.eq_nil_of_length_eq_zero d0)
        go_wp2_with fail
        go_ret
        exact ret_boolB ⟨fun e => absurd e Bool.false_ne_true, fun e => absurd e.1 (by show ¬ 0 < d; rw [D0.out]; omega)⟩ hbw2
      · have hz : (((limbs d).length : Int) == 0) = false := beq_eq_false_iff_ne.2 (by omega)
        by_cases d24 : 24 < (limbs d).length
        · go_wp2_with fail
          go_ret
          exact ret_boolB ⟨fun e => absurd e Bool.false_ne_true, fun e => absurd e.2.2.1 (by show ¬ (limbs d).length ≤ 24; omega)⟩ hbw2
        · by_cases n24 : 24 < (limbs n).length
          · go_wp2_with fail
            go_ret
            exact ret_boolB ⟨fun e => absurd e Bool.false_ne_true, fun e => absurd e.2.1 (by show ¬ (limbs n).length ≤ 24; omega)⟩ hbw2
          · have hd0 : Hid (0 < d) := limbs_length_pos.1 (by omega)
            go_wp2_with fail
            refine (l02Gcd_any n d _ _ _ HA2.out HB2.out h1 h2).mono ?_
            rintro e1 w4 ⟨v4, rfl, hv4, hb4⟩
            have hbw4 := hbw2.trans (hb4.mono hbw2.size)
            go_wp2_with fail
            refine (l04One_any _ _ _ _ hv4).mono ?_
            rintro e1 w5 ⟨rfl, rfl⟩
            go_wp2_with fail
            go_ret
            exact ret_boolB ⟨fun e => ⟨hd0.out, by show (limbs n).length ≤ 24; omega, by show (limbs d).length ≤ 24; omega, of_decide_eq_true e⟩, fun e => decide_eq_true e.2.2.2⟩ hbw4
    · rw [decide_eq_false d60]
      go_wp2_with fail
      go_ret
      exact ret_boolB ⟨fun e => absurd e Bool.false_ne_true, fun e => absurd e.2.2.1 (by show ¬ (limbs d).length ≤ 24; omega)⟩ hbw2
  · rw [decide_eq_false h60]
    go_wp2_with fail
    go_ret
    exact ret_boolB ⟨fun e => absurd e Bool.false_ne_true, fun e => absurd e.2.1 (by show ¬ (limbs n).length ≤ 24; omega)⟩ hbw1
end Go.Proofs.YtnpfmmdekjjnjaaGreatDoor
