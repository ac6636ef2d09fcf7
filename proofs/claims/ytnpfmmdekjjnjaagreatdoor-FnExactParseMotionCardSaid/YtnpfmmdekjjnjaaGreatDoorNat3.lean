/- Contracts over natural numbers as lists of limbs: short division. -/
import Derived.Test.YtnpfmmdekjjnjaaGreatDoorNat2
namespace Go.Proofs.YtnpfmmdekjjnjaaGreatDoor
open Go Go.RowKit Pl

def DivSmallPost (m n : Nat) (w : World) (e : Ending) (w' : World) : Prop :=
  ∃ v, e = .returned (.tuple #[v, .int .i64 ((m % n : Nat) : Int)]) ∧ NatV w' w.heap.size w'.heap.size v (m / n) ∧ Below w.heap.size w w'

set_option maxHeartbeats 800000 in
/-- impl.natDivSmall: a quotient by a limb that is not 0, and the remainder. -/
theorem natDivSmall_any (m n : Nat) (va : Value) (w : World) (ha : NatV w 0 w.heap.size va m) (hn0 : 0 < n) (hn : n < 1000000000) (hm : (limbs m).length ≤ 1000) :
    Calls Tryz.prog 146 #[va, .int .i64 n] w (DivSmallPost m n w) := by
  have oa := okL_limbs m
  have hend := fun out r => div_end (m := m) (n := n) (out := out) (r := r) hn0
  have HE := Lib.hid hend
  clear hend
  unfold NatV at ha
  generalize limbs m = a at *
  obtain ⟨p, c, rfl, _, _⟩ := ha.form
  go_enter Tryz.func146, Tryz.ntmps146
  go_wp2_with (at_make; refine make_full Tryz.underlying22 info_int w.heap.size _ a.length _ rfl rfl rfl rfl (by omega) (Nat.le_refl _) ?_; intro v0 w0 hown0 hb0)
  go_loopw [7, 8] (fun rv iv wr => ∃ (out : List Int) (r i : Int), -1 ≤ i ∧ i < a.length ∧ iv = .int .i64 i ∧ rv = .int .i64 r ∧ OwnI 3 wr w.heap.size v0 out ∧ out.length = a.length ∧ DivInv a n out (i + 1).toNat r ∧ Below w.heap.size w wr) (fun _ iv _ => (intOf iv + 1).toNat)
  case atStart =>
    refine ⟨_, 0, _, by omega, by omega, rfl, rfl, hown0, by simp, ?_, hb0⟩
    rw [show ((a.length : Int) - 1 + 1).toNat = a.length by omega]
    exact div_start (by omega) (okL_replicate _) (by simp)
  case round =>
    obtain ⟨out, r, i, h1, h2, rfl, rfl, hown, hol, hinv, hbel⟩ := hrel
    by_cases h0 : 0 ≤ i
    · obtain ⟨j, rfl⟩ := Int.eq_ofNat_of_zero_le h0
      have hj : j < a.length := by omega
      obtain ⟨b1, o1, rfl, _, c1⟩ := (ha.on hbel).at_ hj
      obtain ⟨g, cp, rfl, hg1, hg2, cg, fg, hset⟩ := hown.store (i := j) (by omega)
      have xa := nth_ok oa j
      simp only [B] at xa
      have hstep := fun (q r' : Int) hq hr => div_step (q := q) (r' := r') oa (by omega : (0 : Int) < n) (by omega) hinv hj hol hq hr
      have hr1 := hinv.2.1
      have hr2 := hinv.2.2.1
      have hjo : j < out.length := by omega
      have HO := Lib.hid hol
      have HS := Lib.hid hstep
      have HT := Lib.hid hset
      have HB := Lib.hid hbel
      clear hstep hinv hset h0 hol hown hown0 hb0 hbel
      go_wp2
      go_roundw
      case rel =>
        refine ⟨_, _, (j : Int) - 1, by omega, by omega, rfl, rfl, HT.out _, by rw [List.length_set]; exact HO.out, ?_, HB.out.setCell hg1 _⟩
        rw [show ((j : Int) - 1 + 1).toNat = j by omega]
        exact HS.out _ _ rfl rfl
      case measure => simp only [intOf]; omega
    · have HI : Hid (i = -1) := by show i = -1; omega
      go_wp2_with (go_at_call 123; refine (trimmed_any out _ _ w.heap.size wr.heap.size hown.ints).mono ?_; rintro e w' ⟨⟨v', rfl, hv'⟩, rfl⟩)
      go_ret2
      have e := HI.out
      subst e
      obtain ⟨e1, e2⟩ := HE.out _ _ hinv
      refine ⟨v', by rw [e2]; rfl, ?_, hbel⟩
      rw [e1] at hv'
      exact hv'
set_option maxHeartbeats 800000 in
/-- spec.l02Small: a quotient by a limb that is not 0, and the remainder. -/
theorem l02Small_any (m n : Nat) (va : Value) (w : World) (ha : NatV w 0 w.heap.size va m) (hn0 : 0 < n) (hn : n < 1000000000) (hm : (limbs m).length ≤ 1000) :
    Calls Tryz.prog 158 #[va, .int .i64 n] w (DivSmallPost m n w) := by
  have oa := okL_limbs m
  have hend := fun out r => div_end (m := m) (n := n) (out := out) (r := r) hn0
  have HE := Lib.hid hend
  clear hend
  unfold NatV at ha
  generalize limbs m = a at *
  obtain ⟨p, c, rfl, _, _⟩ := ha.form
  go_enter Tryz.func158, Tryz.ntmps158
  go_wp2_with (at_make; refine make_full Tryz.underlying22 info_int w.heap.size _ a.length _ rfl rfl rfl rfl (by omega) (Nat.le_refl _) ?_; intro v0 w0 hown0 hb0)
  go_loopw [7, 8] (fun rv iv wr => ∃ (out : List Int) (r i : Int), -1 ≤ i ∧ i < a.length ∧ iv = .int .i64 i ∧ rv = .int .i64 r ∧ OwnI 3 wr w.heap.size v0 out ∧ out.length = a.length ∧ DivInv a n out (i + 1).toNat r ∧ Below w.heap.size w wr) (fun _ iv _ => (intOf iv + 1).toNat)
  case atStart =>
    refine ⟨_, 0, _, by omega, by omega, rfl, rfl, hown0, by simp, ?_, hb0⟩
    rw [show ((a.length : Int) - 1 + 1).toNat = a.length by omega]
    exact div_start (by omega) (okL_replicate _) (by simp)
  case round =>
    obtain ⟨out, r, i, h1, h2, rfl, rfl, hown, hol, hinv, hbel⟩ := hrel
    by_cases h0 : 0 ≤ i
    · obtain ⟨j, rfl⟩ := Int.eq_ofNat_of_zero_le h0
      have hj : j < a.length := by omega
      obtain ⟨b1, o1, rfl, _, c1⟩ := (ha.on hbel).at_ hj
      obtain ⟨g, cp, rfl, hg1, hg2, cg, fg, hset⟩ := hown.store (i := j) (by omega)
      have xa := nth_ok oa j
      simp only [B] at xa
      have hstep := fun (q r' : Int) hq hr => div_step (q := q) (r' := r') oa (by omega : (0 : Int) < n) (by omega) hinv hj hol hq hr
      have hr1 := hinv.2.1
      have hr2 := hinv.2.2.1
      have hjo : j < out.length := by omega
      have HO := Lib.hid hol
      have HS := Lib.hid hstep
      have HT := Lib.hid hset
      have HB := Lib.hid hbel
      clear hstep hinv hset h0 hol hown hown0 hb0 hbel
      go_wp2
      go_roundw
      case rel =>
        refine ⟨_, _, (j : Int) - 1, by omega, by omega, rfl, rfl, HT.out _, by rw [List.length_set]; exact HO.out, ?_, HB.out.setCell hg1 _⟩
        rw [show ((j : Int) - 1 + 1).toNat = j by omega]
        exact HS.out _ _ rfl rfl
      case measure => simp only [intOf]; omega
    · have HI : Hid (i = -1) := by show i = -1; omega
      go_wp2_with (go_at_call 109; refine (l02Trim_any out _ _ w.heap.size wr.heap.size hown.ints).mono ?_; rintro e w' ⟨⟨v', rfl, hv'⟩, rfl⟩)
      go_ret2
      have e := HI.out
      subst e
      obtain ⟨e1, e2⟩ := HE.out _ _ hinv
      refine ⟨v', by rw [e2]; rfl, ?_, hbel⟩
      rw [e1] at hv'
      exact hv'

end Go.Proofs.YtnpfmmdekjjnjaaGreatDoor
