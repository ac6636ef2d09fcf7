/- Contracts: which natural numbers are valid; isOne; the range tests. -/
import Derived.Test.YtnpfmmdekjjnjaaGreatDoorDiv
namespace Go.Proofs.YtnpfmmdekjjnjaaGreatDoor
open Go Go.RowKit Pl

theorem ret_bool {b : Bool} {P : Prop} [Decidable P] {w : World} (h : b = true ↔ P) : Ending.returned (.bool b) = Ending.returned (.bool (decide P)) ∧ w = w := by
  by_cases hp : P
  · rw [h.2 hp, decide_eq_true hp]; exact ⟨rfl, rfl⟩
  · rw [decide_eq_false hp, Bool.eq_false_iff.2 (fun e => hp (h.1 e))]; exact ⟨rfl, rfl⟩

theorem within_any (x lo hi : Int) (w : World) : Calls Tryz.prog 53 #[.int .i64 x, .int .i64 lo, .int .i64 hi] w fun e w' => e = .returned (.bool (decide (lo ≤ x ∧ x ≤ hi))) ∧ w = w' := by
  by_cases h1 : lo ≤ x
  · by_cases h2 : x ≤ hi
    · go_enter Tryz.func53, Tryz.ntmps53
      go_wp2_with fail
      go_ret
      simp [h1, h2]
    · go_enter Tryz.func53, Tryz.ntmps53
      go_wp2_with fail
      go_ret
      simp [h2]
  · go_enter Tryz.func53, Tryz.ntmps53
    go_wp2_with fail
    go_ret
    simp; omega
theorem l01In_any (x lo hi : Int) (w : World) : Calls Tryz.prog 62 #[.int .i64 x, .int .i64 lo, .int .i64 hi] w fun e w' => e = .returned (.bool (decide (lo ≤ x ∧ x ≤ hi))) ∧ w = w' := by
  by_cases h1 : lo ≤ x
  · by_cases h2 : x ≤ hi
    · go_enter Tryz.func62, Tryz.ntmps62
      go_wp2_with fail
      go_ret
      simp [h1, h2]
    · go_enter Tryz.func62, Tryz.ntmps62
      go_wp2_with fail
      go_ret
      simp [h2]
  · go_enter Tryz.func62, Tryz.ntmps62
    go_wp2_with fail
    go_ret
    simp; omega

theorem isOne_any (n : Nat) (v : Value) (w : World) (hi : Nat) (h : NatV w 0 hi v n) : Calls Tryz.prog 103 #[v] w fun e w' => e = .returned (.bool (decide (n = 1))) ∧ w = w' := by
  have key : (n = 1) ↔ (limbs n).length = 1 ∧ nth (limbs n) 0 = 1 := by
    constructor
    · rintro rfl
      have : limbs 1 = [1] := by rw [limbs_pos (by decide), limbs_zero]; rfl
      rw [this]; exact ⟨rfl, rfl⟩
    · rintro ⟨h1, h2⟩
      have h3 := val_limbs n
      match hl : limbs n, h1 with
      | [x], _ =>
        rw [hl] at h2 h3
        simp [nth, val] at h2 h3
        omega
  unfold NatV at h
  have hlen := h.len
  unfold maxLen at hlen
  have HK := Lib.hid key
  clear key
  generalize limbs n = l at *
  obtain ⟨p, c, rfl, _, _⟩ := h.form
  by_cases h1 : l.length = 1
  · obtain ⟨b, off, rfl, _, hc⟩ := h.at_ (i := 0) (by omega)
    rw [Nat.add_zero] at hc
    by_cases h2 : nth l 0 = 1
    · have H1 := Lib.hid h1
      have H2 := Lib.hid h2
      have hr : (decide (n = 1)) = true := decide_eq_true (HK.out.2 ⟨h1, h2⟩)
      have HR := Lib.hid hr
      clear hr
      go_enter Tryz.func103, Tryz.ntmps103
      go_wp2_with fail
      go_ret
      refine ret_bool ⟨fun _ => of_decide_eq_true HR.out, fun _ => rfl⟩
    · have H1 := Lib.hid h1
      have H2 := Lib.hid h2
      go_enter Tryz.func103, Tryz.ntmps103
      go_wp2_with fail
      go_ret
      refine ret_bool ⟨fun e => absurd (eq_of_beq e) H2.out, fun e => absurd (HK.out.1 e).2 H2.out⟩
  · have H1 := Lib.hid h1
    go_enter Tryz.func103, Tryz.ntmps103
    go_wp2_with fail
    go_ret
    refine ret_bool ⟨fun e => absurd e Bool.false_ne_true, fun e => absurd (HK.out.1 e).1 H1.out⟩
theorem l04One_any (n : Nat) (v : Value) (w : World) (hi : Nat) (h : NatV w 0 hi v n) : Calls Tryz.prog 110 #[v] w fun e w' => e = .returned (.bool (decide (n = 1))) ∧ w = w' := by
  have key : (n = 1) ↔ (limbs n).length = 1 ∧ nth (limbs n) 0 = 1 := by
    constructor
    · rintro rfl
      have : limbs 1 = [1] := by rw [limbs_pos (by decide), limbs_zero]; rfl
      rw [this]; exact ⟨rfl, rfl⟩
    · rintro ⟨h1, h2⟩
      have h3 := val_limbs n
      match hl : limbs n, h1 with
      | [x], _ =>
        rw [hl] at h2 h3
        simp [nth, val] at h2 h3
        omega
  unfold NatV at h
  have hlen := h.len
  unfold maxLen at hlen
  have HK := Lib.hid key
  clear key
  generalize limbs n = l at *
  obtain ⟨p, c, rfl, _, _⟩ := h.form
  by_cases h1 : l.length = 1
  · obtain ⟨b, off, rfl, _, hc⟩ := h.at_ (i := 0) (by omega)
    rw [Nat.add_zero] at hc
    by_cases h2 : nth l 0 = 1
    · have H1 := Lib.hid h1
      have H2 := Lib.hid h2
      have hr : (decide (n = 1)) = true := decide_eq_true (HK.out.2 ⟨h1, h2⟩)
      have HR := Lib.hid hr
      clear hr
      go_enter Tryz.func110, Tryz.ntmps110
      go_wp2_with fail
      go_ret
      refine ret_bool ⟨fun _ => of_decide_eq_true HR.out, fun _ => rfl⟩
    · have H1 := Lib.hid h1
      have H2 := Lib.hid h2
      go_enter Tryz.func110, Tryz.ntmps110
      go_wp2_with fail
      go_ret
      refine ret_bool ⟨fun e => absurd (eq_of_beq e) H2.out, fun e => absurd (HK.out.1 e).2 H2.out⟩
  · have H1 := Lib.hid h1
    go_enter Tryz.func110, Tryz.ntmps110
    go_wp2_with fail
    go_ret
    refine ret_bool ⟨fun e => absurd e Bool.false_ne_true, fun e => absurd (HK.out.1 e).1 H1.out⟩
end Go.Proofs.YtnpfmmdekjjnjaaGreatDoor
