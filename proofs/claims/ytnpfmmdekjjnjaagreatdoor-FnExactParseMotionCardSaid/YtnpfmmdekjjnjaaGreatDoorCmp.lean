/- Contracts of the comparisons: cmp.Compare at int, natCmp of the program, l02Cmp of the reference. -/
import Derived.Test.YtnpfmmdekjjnjaaGreatDoorProg
import Derived.Test.YtnpfmmdekjjnjaaGreatDoorMem
import Derived.Test.YtnpfmmdekjjnjaaGreatDoorAPlain
import Derived.WalkLawsBesides
import Derived.WalkSpells
import Derived.Deep.QuietTactic
import Derived.BigQuiet
import Derived.KernelRfl
namespace Go.Proofs.YtnpfmmdekjjnjaaGreatDoor
open Go Go.RowKit Pl

theorem cmp_any (a b : Int) (w : World) : Calls Tryz.prog 176 #[.int .i64 a, .int .i64 b] w fun e w' => e = .returned (.int .i64 (cmpI a b)) ∧ w = w' := by
  rcases Int.lt_trichotomy a b with h | h | h
  · have H : Hid (cmpI a b = -1) := cmpI_lt h
    go_enter Tryz.func176, Tryz.ntmps176
    go_wp2
    go_ret
    exact ⟨by rw [H.out]; rfl, rfl⟩
  · subst h
    go_enter Tryz.func176, Tryz.ntmps176
    go_wp2
    go_ret
    exact ⟨by rw [cmpI_eq]; rfl, rfl⟩
  · have H : Hid (cmpI a b = 1) := cmpI_gt h
    go_enter Tryz.func176, Tryz.ntmps176
    go_wp2
    go_ret
    exact ⟨by rw [H.out]; rfl, rfl⟩

/-- What natCmp does, whichever of its two texts. -/
def CmpPost (m n : Nat) (w : World) (e : Ending) (w' : World) : Prop := e = .returned (.int .i64 (cmpI m n)) ∧ Drew w w'

set_option maxHeartbeats 1000000 in
theorem natCmp_any (m n : Nat) (va vb : Value) (w : World) (hi : Nat) (ha : NatV w 0 hi va m) (hb : NatV w 0 hi vb n) :
    Calls Tryz.prog 163 #[va, vb] w (CmpPost m n w) := by
  have la := ha.len
  have lb := hb.len
  have ca := canon_limbs m
  have cb := canon_limbs n
  have va_ := val_limbs m
  have vb_ := val_limbs n
  unfold NatV at ha hb
  generalize limbs m = a at *
  generalize limbs n = b at *
  obtain ⟨p, c, rfl, _, _⟩ := ha.form
  obtain ⟨q, d, rfl, _, _⟩ := hb.form
  have HM : Hid (val a = m) := va_
  have HN : Hid (val b = n) := vb_
  clear va_ vb_
  unfold maxLen at la lb
  by_cases hl : (a.length : Int) = b.length
  · have hl1 : ((a.length : Int) != b.length) = false := by simp [hl]
    have HL : Hid (a.length = b.length) := by exact_mod_cast hl
    clear hl
    go_enter Tryz.func163, Tryz.ntmps163
    go_wp2
    go_loopw [5] (fun v wr => ∃ i : Int, -1 ≤ i ∧ i < a.length ∧ a.drop (i + 1).toNat = b.drop (i + 1).toNat ∧ v = .int .i64 i ∧ Drew w wr) (fun v _ => (intOf v + 1).toNat)
    case atStart =>
      refine ⟨_, by omega, by omega, ?_, rfl, Drew.refl w⟩
      rw [List.drop_eq_nil_of_le (by omega), List.drop_eq_nil_of_le (by have := HL.out; omega)]
    case round =>
      obtain ⟨i, h1, h2, h3, rfl, kk, rfl⟩ := hrel
      by_cases h0 : 0 ≤ i
      · obtain ⟨j, rfl⟩ := Int.eq_ofNat_of_zero_le h0
        have hj : j < a.length := by omega
        have hjb : j < b.length := by rw [← HL.out]; exact hj
        have H3 : Hid (a.drop (j + 1) = b.drop (j + 1)) := h3
        obtain ⟨b1, o1, rfl, _, c1⟩ := ha.at_ hj
        obtain ⟨b2, o2, rfl, _, c2⟩ := hb.at_ hjb
        clear h3 h0
        by_cases hx : nth a j = nth b j
        · have HX : Hid (nth a j = nth b j) := hx
          have hn : (nth a j != nth b j) = false := by simp [hx]
          clear hx
          go_wp2
          go_quiet (fail)
          go_wp2
          go_roundw
          case rel => exact ⟨(j : Int) - 1, by omega, by omega, by rw [show ((j : Int) - 1 + 1).toNat = j by omega]; exact drop_same HL.out hj H3.out HX.out, rfl, ⟨_, rfl⟩⟩
          case measure => simp only [intOf]; omega
        · have HX : Hid (nth a j ≠ nth b j) := hx
          have hn : (nth a j != nth b j) = true := by simp [hx]
          clear hx
          go_wp2
          go_quiet (fail)
          go_wp2
          go_quiet ((go_at_call 176; exact quiet2 (as_drew (cmp_any _ _ _))))
          go_wp2
          go_ret
          refine ⟨?_, by repeat (first | exact Drew.refl _ | refine Drew.step ?_ _)⟩
          rw [← HM.out, ← HN.out, ← cmp_top ca.1 cb.1 HL.out hj H3.out HX.out]
          rfl
      · have HI : Hid (i = -1) := by show i = -1; omega
        go_wp2
        go_ret
        refine ⟨?_, (Drew.refl w).step kk⟩
        have e := HI.out
        subst e
        have e : a = b := by simpa using h3
        rw [← HM.out, ← HN.out, e, cmpI_eq]
        rfl
  · have hl1 : ((a.length : Int) != b.length) = true := by simp [hl]
    have HL : Hid (a.length ≠ b.length) := by show a.length ≠ b.length; omega
    clear hl
    go_enter Tryz.func163, Tryz.ntmps163
    go_wp2_with (go_at_call 176; refine (cmp_any _ _ _).mono ?_; rintro e w' ⟨rfl, rfl⟩)
    go_ret
    refine ⟨?_, Drew.refl w⟩
    rw [← HM.out, ← HN.out, ← cmp_len ca cb HL.out]
    rfl

theorem cmpI_lt_iff {a b x y : Int} (h : cmpI x y = cmpI a b) (hxy : x < y) : cmpI a b = -1 := by rw [← h, cmpI_lt hxy]
theorem cmpI_gt_iff {a b x y : Int} (h : cmpI x y = cmpI a b) (hxy : y < x) : cmpI a b = 1 := by rw [← h, cmpI_gt hxy]

set_option maxHeartbeats 1000000 in
theorem l02Cmp_any (m n : Nat) (va vb : Value) (w : World) (hi : Nat) (ha : NatV w 0 hi va m) (hb : NatV w 0 hi vb n) :
    Calls Tryz.prog 157 #[va, vb] w (CmpPost m n w) := by
  have la := ha.len
  have lb := hb.len
  have ca := canon_limbs m
  have cb := canon_limbs n
  have va_ := val_limbs m
  have vb_ := val_limbs n
  unfold NatV at ha hb
  generalize limbs m = a at *
  generalize limbs n = b at *
  obtain ⟨p, c, rfl, _, _⟩ := ha.form
  obtain ⟨q, d, rfl, _, _⟩ := hb.form
  have HM : Hid (val a = m) := va_
  have HN : Hid (val b = n) := vb_
  clear va_ vb_
  unfold maxLen at la lb
  by_cases hl : (a.length : Int) = b.length
  · have hl1 : ((a.length : Int) != b.length) = false := by simp [hl]
    have HL : Hid (a.length = b.length) := by exact_mod_cast hl
    clear hl
    go_enter Tryz.func157, Tryz.ntmps157
    go_wp2
    go_loopw [5] (fun v wr => ∃ i : Int, -1 ≤ i ∧ i < a.length ∧ a.drop (i + 1).toNat = b.drop (i + 1).toNat ∧ v = .int .i64 i ∧ Drew w wr) (fun v _ => (intOf v + 1).toNat)
    case atStart =>
      refine ⟨_, by omega, by omega, ?_, rfl, Drew.refl w⟩
      rw [List.drop_eq_nil_of_le (by omega), List.drop_eq_nil_of_le (by have := HL.out; omega)]
    case round =>
      obtain ⟨i, h1, h2, h3, rfl, kk, rfl⟩ := hrel
      by_cases h0 : 0 ≤ i
      · obtain ⟨j, rfl⟩ := Int.eq_ofNat_of_zero_le h0
        have hj : j < a.length := by omega
        have hjb : j < b.length := by rw [← HL.out]; exact hj
        have H3 : Hid (a.drop (j + 1) = b.drop (j + 1)) := h3
        obtain ⟨b1, o1, rfl, _, c1⟩ := ha.at_ hj
        obtain ⟨b2, o2, rfl, _, c2⟩ := hb.at_ hjb
        clear h3 h0
        by_cases hx : nth a j < nth b j
        · have HX : Hid (nth a j < nth b j) := hx
          go_wp2
          go_quiet (fail)
          go_wp2
          go_ret
          refine ⟨?_, by repeat (first | exact Drew.refl _ | refine Drew.step ?_ _)⟩
          rw [← HM.out, ← HN.out, cmpI_lt_iff (cmp_top ca.1 cb.1 HL.out hj H3.out (by have := HX.out; omega)) HX.out]
          rfl
        · by_cases hy : nth b j < nth a j
          · have HX : Hid (nth b j < nth a j) := hy
            go_wp2
            go_quiet (fail)
            go_wp2
            go_quiet (fail)
            go_wp2
            go_ret
            refine ⟨?_, by repeat (first | exact Drew.refl _ | refine Drew.step ?_ _)⟩
            rw [← HM.out, ← HN.out, cmpI_gt_iff (cmp_top ca.1 cb.1 HL.out hj H3.out (by have := HX.out; omega)) HX.out]
            rfl
          · have HX : Hid (nth a j = nth b j) := by show nth a j = nth b j; omega
            go_wp2
            go_quiet (fail)
            go_wp2
            go_quiet (fail)
            go_wp2
            go_roundw
            case rel => exact ⟨(j : Int) - 1, by omega, by omega, by rw [show ((j : Int) - 1 + 1).toNat = j by omega]; exact drop_same HL.out hj H3.out HX.out, rfl, by repeat (first | exact Drew.refl _ | refine Drew.step ?_ _)⟩
            case measure => simp only [intOf]; omega
      · have HI : Hid (i = -1) := by show i = -1; omega
        go_wp2
        go_ret
        refine ⟨?_, (Drew.refl w).step kk⟩
        have e := HI.out
        subst e
        have e : a = b := by simpa using h3
        rw [← HM.out, ← HN.out, e, cmpI_eq]
        rfl
  · have HL : Hid (a.length ≠ b.length) := by show a.length ≠ b.length; omega
    have hl1 : ((a.length : Int) != b.length) = true := by simp [hl]
    clear hl
    rcases Nat.lt_or_gt_of_ne HL.out with hlt | hlt
    · have hltI : (a.length : Int) < b.length := by omega
      go_enter Tryz.func157, Tryz.ntmps157
      go_wp2
      go_ret
      refine ⟨?_, Drew.refl w⟩
      rw [← HM.out, ← HN.out, cmpI_lt_iff (cmp_len ca cb HL.out) hltI]
      rfl
    · have hltI : (b.length : Int) < a.length := by omega
      go_enter Tryz.func157, Tryz.ntmps157
      go_wp2
      go_ret
      refine ⟨?_, Drew.refl w⟩
      rw [← HM.out, ← HN.out, cmpI_gt_iff (cmp_len ca cb HL.out) hltI]
      rfl

end Go.Proofs.YtnpfmmdekjjnjaaGreatDoor
