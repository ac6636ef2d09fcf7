/- Contracts: NatOk of numbers in canonical form. -/
import Derived.Test.YtnpfmmdekjjnjaaGreatDoorOk
namespace Go.Proofs.YtnpfmmdekjjnjaaGreatDoor
open Go Go.RowKit Pl

theorem natOk1_any (x : Int) (w : World) (h0 : 0 ≤ x) (h1 : x < B) : Calls Tryz.prog 144 #[.int .i64 x] w fun e w' => e = .returned (.bool false) ∧ w = w' := by
  unfold B at h1
  go_enter Tryz.func144, Tryz.ntmps144
  go_wp2_with fail
  refine (within_any x 0 999999999 w).mono ?_
  rintro e w1 ⟨rfl, rfl⟩
  have e : decide (0 ≤ x ∧ x ≤ 999999999) = true := decide_eq_true (by omega)
  rw [e]
  go_wp2_with fail
  go_ret
  exact ⟨rfl, rfl⟩

theorem indexOk_any (l : List Int) (hl : okL l) (v : Value) (w : World) (hi : Nat) (h : Ints w 0 hi v l) :
    Calls Tryz.prog 162 #[v, .func (.func 144) #[] #[]] w fun e w' => e = .returned (.int .i64 (-1)) ∧ Drew w w' := by
  have hlen := h.len
  unfold maxLen at hlen
  obtain ⟨p, c, rfl, _, _⟩ := h.form
  go_enter Tryz.func162, Tryz.ntmps162
  go_wp2_with fail
  go_loopw [8] (fun iv wr => ∃ i : Nat, i ≤ l.length ∧ iv = .int .i64 i ∧ Drew w wr) (fun iv _ => l.length - (intOf iv).toNat)
  case atStart => exact ⟨0, Nat.zero_le _, rfl, Drew.refl _⟩
  case round =>
    obtain ⟨i, hle, rfl, hd⟩ := hrel
    rcases Nat.lt_or_ge i l.length with hk | hk
    · obtain ⟨b, off, rfl, _, hc⟩ := (h.drew hd).at_ hk
      have hx := nth_ok hl i
      go_wp2_with fail
      refine (natOk1_any (nth l i) wr hx.1 hx.2).mono ?_
      rintro e w1 ⟨rfl, rfl⟩
      go_wp2_with fail
      go_roundw
      case rel => exact ⟨i + 1, hk, by go_num, hd⟩
      case measure => simp only [intOf]; omega
    · go_wp2_with fail
      go_ret
      exact ⟨rfl, hd⟩

theorem containsOk_any (l : List Int) (hl : okL l) (v : Value) (w : World) (hi : Nat) (h : Ints w 0 hi v l) :
    Calls Tryz.prog 143 #[v, .func (.func 144) #[] #[]] w fun e w' => e = .returned (.bool false) ∧ Drew w w' := by
  go_enter Tryz.func143, Tryz.ntmps143
  go_wp2_with fail
  refine (indexOk_any l hl v w hi h).mono ?_
  rintro e w1 ⟨rfl, hd⟩
  go_wp2_with fail
  go_ret
  exact ⟨rfl, hd⟩

theorem ret_boolD {b : Bool} {P : Prop} [Decidable P] {w w' : World} (h : b = true ↔ P) (hd : Drew w w') : Ending.returned (.bool b) = Ending.returned (.bool (decide P)) ∧ Drew w w' := ⟨(ret_bool (w := w) h).1, hd⟩

/-- impl.NatOk of a number in canonical form. -/
theorem NatOk_any (n : Nat) (v : Value) (w : World) (hi : Nat) (h : NatV w 0 hi v n) :
    Calls Tryz.prog 124 #[v] w fun e w' => e = .returned (.bool (decide ((limbs n).length ≤ 60))) ∧ Drew w w' := by
  have hc := canon_limbs n
  unfold NatV at h
  have hlen := h.len
  unfold maxLen at hlen
  generalize limbs n = l at *
  have HH := Lib.hid h
  obtain ⟨p, c, rfl, _, _⟩ := h.form
  have HC := Lib.hid hc
  clear hc
  by_cases h1 : 60 < l.length
  · go_enter Tryz.func124, Tryz.ntmps124
    go_wp2_with fail
    go_ret
    exact ret_boolD ⟨fun e => absurd e Bool.false_ne_true, fun e => absurd e (by omega)⟩ (Drew.refl _)
  · by_cases h0 : l.length = 0
    · obtain rfl : l = [] := List.eq_nil_of_length_eq_zero h0
      have hle : ([] : List Int).length ≤ 60 := Nat.zero_le _
      go_enter Tryz.func124, Tryz.ntmps124
      go_wp2_with fail
      refine (containsOk_any [] HC.out.1 _ w hi HH.out).mono ?_
      rintro e w1 ⟨rfl, hd⟩
      go_wp2_with fail
      go_ret
      exact ret_boolD ⟨fun _ => hle, fun _ => rfl⟩ hd
    · have hx := HC.out.2 (by omega)
      obtain ⟨b, off, rfl, _, hcl⟩ := h.at_ (i := l.length - 1) (by omega)
      have HX := Lib.hid hx
      clear hx
      go_enter Tryz.func124, Tryz.ntmps124
      go_wp2_with fail
      refine (containsOk_any l HC.out.1 _ w hi HH.out).mono ?_
      rintro e w1 ⟨rfl, hd⟩
      have hcl1 : w1.cell? ⟨b, off + (l.length - 1), none⟩ = some (.int .i64 (nth l (l.length - 1))) := by obtain ⟨j, rfl⟩ := hd; exact hcl
      go_wp2_with fail
      go_ret
      exact ret_boolD ⟨fun _ => by omega, fun _ => Bool.or_eq_true_iff.2 (.inr (bne_iff_ne.2 HX.out))⟩ hd

/-- The reference's. -/
theorem sNatOk_any (n : Nat) (v : Value) (w : World) (hi : Nat) (h : NatV w 0 hi v n) :
    Calls Tryz.prog 114 #[v] w fun e w' => e = .returned (.bool (decide ((limbs n).length ≤ 60))) ∧ Drew w w' := by
  have hc := canon_limbs n
  unfold NatV at h
  have hlen := h.len
  unfold maxLen at hlen
  generalize limbs n = l at *
  have HH := Lib.hid h
  obtain ⟨p, c, rfl, _, _⟩ := h.form
  have HC := Lib.hid hc
  clear hc
  go_enter Tryz.func114, Tryz.ntmps114
  go_wp2_with fail
  go_loopw [7] (fun iv wr => ∃ i : Nat, i ≤ l.length ∧ iv = .int .i64 i ∧ Drew w wr) (fun iv _ => l.length - (intOf iv).toNat)
  case atStart => exact ⟨0, Nat.zero_le _, rfl, Drew.refl _⟩
  case round =>
    obtain ⟨i, hle, rfl, hd⟩ := hrel
    rcases Nat.lt_or_ge i l.length with hk | hk
    · obtain ⟨b, off, rfl, _, hcl⟩ := (h.drew hd).at_ hk
      have hx := nth_ok HC.out.1 i
      go_wp2_with fail
      refine (l01In_any (nth l i) 0 999999999 wr).mono ?_
      rintro e w1 ⟨rfl, rfl⟩
      have e : decide (0 ≤ nth l i ∧ nth l i ≤ 999999999) = true := decide_eq_true (by unfold B at hx; omega)
      rw [e]
      go_wp2_with fail
      go_roundw
      case rel => exact ⟨i + 1, hk, by go_num, hd⟩
      case measure => simp only [intOf]; omega
    · by_cases h1 : 60 < l.length
      · go_wp2_with fail
        go_ret
        exact ret_boolD ⟨fun e => absurd e Bool.false_ne_true, fun e => absurd e (by omega)⟩ hd
      · by_cases h0 : l.length = 0
        · go_wp2_with fail
          go_ret
          exact ret_boolD ⟨fun _ => by omega, fun _ => rfl⟩ hd
        · have hx := HC.out.2 (by omega)
          obtain ⟨b, off, rfl, _, hcl⟩ := (h.drew hd).at_ (i := l.length - 1) (by omega)
          have HX := Lib.hid hx
          clear hx
          go_wp2_with fail
          go_ret
          exact ret_boolD ⟨fun _ => by omega, fun _ => Bool.or_eq_true_iff.2 (.inr (bne_iff_ne.2 HX.out))⟩ hd

end Go.Proofs.YtnpfmmdekjjnjaaGreatDoor
