/- Contracts: IsDigits. -/
import Derived.Test.YtnpfmmdekjjnjaaGreatDoorFmtPoint
namespace Go.Proofs.YtnpfmmdekjjnjaaGreatDoor
open Go Go.RowKit Pl

instance (s : List UInt8) : Decidable (digs s) := by unfold digs; exact inferInstance
/-- What IsDigits asks. -/
def isDigs (s : List UInt8) : Prop := s ≠ [] ∧ digs s
instance (s : List UInt8) : Decidable (isDigs s) := by unfold isDigs; exact inferInstance
theorem digs_all {s : List UInt8} (h : ∀ j, j < s.length → 48 ≤ (s.getD j 0).toNat ∧ (s.getD j 0).toNat ≤ 57) : digs s := by
  intro c hc
  obtain ⟨j, hj, rfl⟩ := List.getElem_of_mem hc
  have := h j hj
  simpa [List.getD, hj] using this
theorem digs_at {s : List UInt8} (h : digs s) {j : Nat} (hj : j < s.length) : 48 ≤ (s.getD j 0).toNat ∧ (s.getD j 0).toNat ≤ 57 := by
  have := h s[j] (List.getElem_mem hj)
  simpa [List.getD, hj] using this

theorem byte_at {s : List UInt8} {i : Nat} (h : i < s.length) (h' : i < (⟨s.toArray⟩ : ByteArray).size) : (⟨s.toArray⟩ : ByteArray)[i]'h' = s.getD i 0 := by
  have : (⟨s.toArray⟩ : ByteArray)[i]'h' = s[i] := rfl
  rw [this]
  simp [List.getD, h]

theorem areOf_any (s : List UInt8) (w : World) (hl : s.length ≤ 1099511627776) :
    Calls Tryz.prog 142 #[(Value.string ⟨(s).toArray⟩), .int .u8 48, .int .u8 57] w fun e w' => e = .returned (.bool (decide (digs s))) ∧ w = w' := by
  go_enter Tryz.func142, Tryz.ntmps142
  go_wp2_with fail
  go_loopw [10] (fun iv wr => ∃ i : Nat, i ≤ s.length ∧ iv = .int .i64 i ∧ Hid (∀ j, j < i → 48 ≤ (s.getD j 0).toNat ∧ (s.getD j 0).toNat ≤ 57) ∧ wr = w) (fun iv _ => s.length - (intOf iv).toNat)
  case atStart => exact ⟨0, Nat.zero_le _, rfl, fun j hj => absurd hj (Nat.not_lt_zero j), rfl⟩
  case round =>
    obtain ⟨i, hle, rfl, hall, rfl⟩ := hrel
    rcases Nat.lt_or_ge i s.length with hk | hk
    · have hg := fun h' => byte_at hk h'
      have hstep : ∀ c : UInt8, s.getD i 0 = c → 48 ≤ c.toNat → c.toNat ≤ 57 → ∀ j, j < i + 1 → 48 ≤ (s.getD j 0).toNat ∧ (s.getD j 0).toNat ≤ 57 := by
        intro c hc h1 h2 j hj
        rcases Nat.lt_or_ge j i with h | h
        · exact hall.out j h
        · obtain rfl : j = i := by omega
          rw [hc]; exact ⟨h1, h2⟩
      have hno : ∀ c : UInt8, s.getD i 0 = c → (c.toNat < 48 ∨ 57 < c.toNat) → ¬ digs s := by
        intro c hc h hd
        have := digs_at hd hk
        rw [hc] at this
        omega
      have HS := Lib.hid hstep
      have HN := Lib.hid hno
      clear hstep hno
      generalize hc : s.getD i 0 = c at *
      have HC := Lib.hid hc
      clear hc
      by_cases h1 : c.toNat < 48
      · go_wp2_with fail
        go_ret
        exact ⟨by rw [decide_eq_false (HN.out c rfl (.inl h1))]; rfl, by trivial⟩
      · by_cases h2 : 57 < c.toNat
        · go_wp2_with fail
          go_ret
          exact ⟨by rw [decide_eq_false (HN.out c rfl (.inr h2))]; rfl, by trivial⟩
        · go_wp2_with fail
          go_roundw
          case rel => exact ⟨i + 1, hk, by go_num, HS.out c rfl (by omega) (by omega), by trivial⟩
          case measure => simp only [intOf]; omega
    · have HD : Hid (digs s) := digs_all fun j hj => hall.out j (by omega)
      go_wp2_with fail
      go_ret
      exact ⟨by rw [decide_eq_true HD.out]; rfl, by trivial⟩

theorem IsDigits_any (s : List UInt8) (w : World) (hl : s.length ≤ 1099511627776) :
    Calls Tryz.prog 122 #[(Value.string ⟨(s).toArray⟩)] w fun e w' => e = .returned (.bool (decide (isDigs s))) ∧ w = w' := by
  have HA := Lib.hid (areOf_any s w hl)
  rcases s with _ | ⟨c, s⟩
  · go_enter Tryz.func122, Tryz.ntmps122
    go_wp2_with fail
    go_ret
    exact ⟨rfl, rfl⟩
  · go_enter Tryz.func122, Tryz.ntmps122
    go_wp2_with fail
    refine HA.out.mono ?_
    rintro e w1 ⟨rfl, rfl⟩
    generalize hq : decide (digs (c :: s)) = q
    have HQ := Lib.hid hq
    clear hq
    go_wp2_with fail
    go_ret
    refine ⟨?_, by trivial⟩
    rw [show decide (isDigs (c :: s)) = q by rw [← HQ.out]; simp [isDigs]]
    rfl

theorem sIsDigits_any (s : List UInt8) (w : World) (hl : s.length ≤ 1099511627776) :
    Calls Tryz.prog 108 #[(Value.string ⟨(s).toArray⟩)] w fun e w' => e = .returned (.bool (decide (isDigs s))) ∧ w = w' := by
  go_enter Tryz.func108, Tryz.ntmps108
  go_wp2_with fail
  go_loopw [3] (fun iv wr => ∃ i : Nat, i ≤ s.length ∧ iv = .int .i64 i ∧ Hid (∀ j, j < i → 48 ≤ (s.getD j 0).toNat ∧ (s.getD j 0).toNat ≤ 57) ∧ wr = w) (fun iv _ => s.length - (intOf iv).toNat)
  case atStart => exact ⟨0, Nat.zero_le _, rfl, fun j hj => absurd hj (Nat.not_lt_zero j), rfl⟩
  case round =>
    obtain ⟨i, hle, rfl, hall, rfl⟩ := hrel
    rcases Nat.lt_or_ge i s.length with hk | hk
    · have hg := fun h' => byte_at hk h'
      have hstep : ∀ c : UInt8, s.getD i 0 = c → 48 ≤ c.toNat → c.toNat ≤ 57 → ∀ j, j < i + 1 → 48 ≤ (s.getD j 0).toNat ∧ (s.getD j 0).toNat ≤ 57 := by
        intro c hc h1 h2 j hj
        rcases Nat.lt_or_ge j i with h | h
        · exact hall.out j h
        · obtain rfl : j = i := by omega
          rw [hc]; exact ⟨h1, h2⟩
      have hno : ∀ c : UInt8, s.getD i 0 = c → (c.toNat < 48 ∨ 57 < c.toNat) → ¬ isDigs s := by
        intro c hc h hd
        have := digs_at hd.2 hk
        rw [hc] at this
        omega
      have HS := Lib.hid hstep
      have HN := Lib.hid hno
      clear hstep hno
      generalize hc : s.getD i 0 = c at *
      have HC := Lib.hid hc
      clear hc
      by_cases h1 : c.toNat < 48
      · go_wp2_with fail
        go_ret
        exact ⟨by rw [decide_eq_false (HN.out c rfl (.inl h1))]; rfl, by trivial⟩
      · by_cases h2 : 57 < c.toNat
        · go_wp2_with fail
          go_ret
          exact ⟨by rw [decide_eq_false (HN.out c rfl (.inr h2))]; rfl, by trivial⟩
        · go_wp2_with fail
          go_roundw
          case rel => exact ⟨i + 1, hk, by go_num, HS.out c rfl (by omega) (by omega), by trivial⟩
          case measure => simp only [intOf]; omega
    · have HD : Hid (digs s) := digs_all fun j hj => hall.out j (by omega)
      have hq : (isDigs s ↔ 0 < s.length) := by unfold isDigs; rw [List.length_pos_iff]; exact ⟨fun h => h.1, fun h => ⟨h, HD.out⟩⟩
      have HQ := Lib.hid hq
      clear hq
      go_wp2_with fail
      go_ret
      refine ⟨?_, by trivial⟩
      rw [show decide (isDigs s) = decide (0 < s.length) from decide_eq_decide.2 HQ.out]
      rfl
end Go.Proofs.YtnpfmmdekjjnjaaGreatDoor
