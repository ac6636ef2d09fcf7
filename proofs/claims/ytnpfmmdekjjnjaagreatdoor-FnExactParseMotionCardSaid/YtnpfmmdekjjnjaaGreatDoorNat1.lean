/- Contracts over natural numbers as lists of limbs: limb, trimmed, natOf (the program's and the reference's). -/
import Derived.Test.YtnpfmmdekjjnjaaGreatDoorCmp
namespace Go.Proofs.YtnpfmmdekjjnjaaGreatDoor
open Go Go.RowKit Pl

theorem info_int : (Tryz.prog.info? 3).map (fun i => (i.zero, i.size, i.bytes)) = some (some (.int .i64 0), 1, 8) := by kernel_rfl

/-- A limb of a list, 0 behind its end. -/
theorem limb_any (l : List Int) (i : Nat) (v : Value) (w : World) (hi : Nat) (h : Ints w 0 hi v l) (_hn : i ≤ 1099511627776) :
    Calls Tryz.prog 177 #[v, .int .i64 i] w fun e w' => e = .returned (.int .i64 (nth l i)) ∧ w = w' := by
  have hlen := h.len
  unfold maxLen at hlen
  obtain ⟨p, c, rfl, _, _⟩ := h.form
  by_cases hil : (i : Int) < l.length
  · have hil' : i < l.length := by omega
    obtain ⟨b, off, rfl, _, hc⟩ := h.at_ hil'
    go_enter Tryz.func177, Tryz.ntmps177
    go_wp2
    go_ret
    exact ⟨rfl, rfl⟩
  · have H : Hid (nth l i = 0) := nth_ge (by omega)
    go_enter Tryz.func177, Tryz.ntmps177
    go_wp2
    go_ret
    exact ⟨by rw [H.out]; rfl, rfl⟩

/-- The same at an index that is any integer from 0 on. -/
theorem limb_z (l : List Int) (z x : Int) (v : Value) (w : World) (hi : Nat) (h : Ints w 0 hi v l) (h0 : 0 ≤ z) (hn : z ≤ 1099511627776) (hx : nth l z.toNat = x) :
    Calls Tryz.prog 177 #[v, .int .i64 z] w fun e w' => e = .returned (.int .i64 x) ∧ w = w' := by
  obtain ⟨i, rfl⟩ := Int.eq_ofNat_of_zero_le h0
  have := limb_any l i v w hi h (by omega)
  rw [Int.toNat_natCast] at hx
  rw [hx] at this
  exact this

/-- impl.trimmed: the slice without the zero limbs at its end: the same memory. -/
theorem trimmed_at (l : List Int) (p : Option Addr) (c : Nat) (w : World) (lo hi : Nat) (h : Ints w lo hi (.slice p l.length c) l) :
    Calls Tryz.prog 123 #[.slice p l.length c] w fun e w' => (∃ k, k ≤ l.length ∧ l.take k = trimL l ∧ e = .returned (.slice p k c)) ∧ w = w' := by
  have hlen := h.len
  unfold maxLen at hlen
  obtain ⟨p', c', he, hlc, hcm⟩ := h.form
  injection he with he1 he2 he3
  subst he1 he3
  go_enter Tryz.func123, Tryz.ntmps123
  go_wp2
  go_loop [3] (fun v => ∃ k : Nat, k ≤ l.length ∧ trimL (l.take k) = trimL l ∧ v = .int .i64 k) (fun v => (intOf v).toNat)
  case atStart => exact ⟨_, Nat.le_refl _, by rw [List.take_length], rfl⟩
  case round =>
    obtain ⟨k, hk, ht, rfl⟩ := hrel
    have HT := Lib.hid ht
    clear ht
    rcases Nat.eq_zero_or_pos k with h0 | h0
    · subst h0
      go_wp2
      go_ret
      exact ⟨⟨0, Nat.zero_le _, by rw [← HT.out]; simp [trimL], rfl⟩, rfl⟩
    · obtain ⟨j, rfl⟩ : ∃ j, k = j + 1 := ⟨k - 1, by omega⟩
      have hj : j < l.length := by omega
      obtain ⟨b, off, rfl, _, hc⟩ := h.at_ hj
      have e1 : ((j + 1 : Nat) : Int) - 1 = j := by omega
      by_cases hx : nth l j = 0
      · have hb : (nth l j == 0) = true := by simp [hx]
        have HX : Hid (nth l j = 0) := hx
        clear hx
        go_wp2
        go_round
        case rel => exact ⟨j, by omega, by rw [← HT.out]; exact (trimL_take_of_zero (n := j + 1) (by omega) hk HX.out).symm, by go_num⟩
        case measure => simp only [intOf]; omega
      · have hb : (nth l j == 0) = false := by simp [hx]
        have HX : Hid (nth l j ≠ 0) := hx
        clear hx
        go_wp2
        go_ret
        exact ⟨⟨j + 1, hk, by rw [← HT.out, trimL_take_of_ne (n := j + 1) (by omega) hk HX.out], rfl⟩, rfl⟩
theorem trimmed_any (l : List Int) (v : Value) (w : World) (lo hi : Nat) (h : Ints w lo hi v l) :
    Calls Tryz.prog 123 #[v] w fun e w' => (∃ v', e = .returned v' ∧ Ints w lo hi v' (trimL l)) ∧ w = w' := by
  obtain ⟨p, c, rfl, hlc, hcm⟩ := h.form
  refine (trimmed_at l p c w lo hi h).mono ?_
  rintro e w' ⟨⟨k, hk, ht, rfl⟩, rfl⟩
  exact ⟨⟨_, rfl, by rw [← ht]; exact h.take hk hcm hlc⟩, rfl⟩
/-- spec.l02Trim: the slice without the zero limbs at its end: the same memory. -/
theorem l02Trim_at (l : List Int) (p : Option Addr) (c : Nat) (w : World) (lo hi : Nat) (h : Ints w lo hi (.slice p l.length c) l) :
    Calls Tryz.prog 109 #[.slice p l.length c] w fun e w' => (∃ k, k ≤ l.length ∧ l.take k = trimL l ∧ e = .returned (.slice p k c)) ∧ w = w' := by
  have hlen := h.len
  unfold maxLen at hlen
  obtain ⟨p', c', he, hlc, hcm⟩ := h.form
  injection he with he1 he2 he3
  subst he1 he3
  go_enter Tryz.func109, Tryz.ntmps109
  go_wp2
  go_loop [3] (fun v => ∃ k : Nat, k ≤ l.length ∧ trimL (l.take k) = trimL l ∧ v = .int .i64 k) (fun v => (intOf v).toNat)
  case atStart => exact ⟨_, Nat.le_refl _, by rw [List.take_length], rfl⟩
  case round =>
    obtain ⟨k, hk, ht, rfl⟩ := hrel
    have HT := Lib.hid ht
    clear ht
    rcases Nat.eq_zero_or_pos k with h0 | h0
    · subst h0
      go_wp2
      go_ret
      exact ⟨⟨0, Nat.zero_le _, by rw [← HT.out]; simp [trimL], rfl⟩, rfl⟩
    · obtain ⟨j, rfl⟩ : ∃ j, k = j + 1 := ⟨k - 1, by omega⟩
      have hj : j < l.length := by omega
      obtain ⟨b, off, rfl, _, hc⟩ := h.at_ hj
      have e1 : ((j + 1 : Nat) : Int) - 1 = j := by omega
      by_cases hx : nth l j = 0
      · have hb : (nth l j == 0) = true := by simp [hx]
        have HX : Hid (nth l j = 0) := hx
        clear hx
        go_wp2
        go_round
        case rel => exact ⟨j, by omega, by rw [← HT.out]; exact (trimL_take_of_zero (n := j + 1) (by omega) hk HX.out).symm, by go_num⟩
        case measure => simp only [intOf]; omega
      · have hb : (nth l j == 0) = false := by simp [hx]
        have HX : Hid (nth l j ≠ 0) := hx
        clear hx
        go_wp2
        go_ret
        exact ⟨⟨j + 1, hk, by rw [← HT.out, trimL_take_of_ne (n := j + 1) (by omega) hk HX.out], rfl⟩, rfl⟩
theorem l02Trim_any (l : List Int) (v : Value) (w : World) (lo hi : Nat) (h : Ints w lo hi v l) :
    Calls Tryz.prog 109 #[v] w fun e w' => (∃ v', e = .returned v' ∧ Ints w lo hi v' (trimL l)) ∧ w = w' := by
  obtain ⟨p, c, rfl, hlc, hcm⟩ := h.form
  refine (l02Trim_at l p c w lo hi h).mono ?_
  rintro e w' ⟨⟨k, hk, ht, rfl⟩, rfl⟩
  exact ⟨⟨_, rfl, by rw [← ht]; exact h.take hk hcm hlc⟩, rfl⟩

/-- impl.natOf: the limbs of a number. -/
theorem natOf_any (m : Nat) (w : World) (hm : m ≤ 9223372036854775807) :
    Calls Tryz.prog 164 #[.int .i64 m] w fun e w' => ∃ v, e = .returned v ∧ NatV w' w.heap.size w'.heap.size v m ∧ Below w.heap.size w w' := by
  have hm3 : (limbs m).length ≤ 3 := limbs_length_le.2 (by simp only [bp, B]; omega)
  go_enter Tryz.func164, Tryz.ntmps164
  go_wp2
  go_loopw [0, 3] (fun nv v wr => ∃ (k : Nat) (out : List Int), nv = .int .i64 k ∧ k ≤ m ∧ OwnI 3 wr w.heap.size v out ∧ out ++ limbs k = limbs m ∧ Below w.heap.size w wr) (fun nv _ _ => (intOf nv).toNat)
  case atStart =>
    exact ⟨m, [], rfl, Nat.le_refl _, OwnI.made _ w #[] 0 (Nat.le_refl _) (Nat.zero_le _) rfl, rfl, (Below.refl _ _).alloc (Nat.le_refl _) _⟩
  case round =>
    obtain ⟨k, out, rfl, hk, hown, hlist, hbel⟩ := hrel
    have HL := Lib.hid hlist
    have hlen : out.length + (limbs k).length = (limbs m).length := by rw [← List.length_append, hlist]
    clear hlist
    rcases Nat.eq_zero_or_pos k with h0 | h0
    · subst h0
      clear hlen hm3
      go_wp2
      go_ret
      refine ⟨_, rfl, ?_, hbel⟩
      have := HL.out
      rw [limbs_zero, List.append_nil] at this
      rw [NatV, ← this]
      exact hown.ints
    · have hlen2 : out.length < 1099511627776 := by omega
      have HP := Lib.hid h0
      clear hlen hm3
      go_wp2_with (at_builtin; refine push_int Tryz.underlying22 info_int _ _ _ rfl rfl rfl hown rfl hlen2 hbel.size ?_; intro v1 w1 hown1 hg1 hb1)
      go_roundw
      case rel => exact ⟨k / 1000000000, _, by go_num, by omega, hown1, by rw [← HL.out, limbs_pos (n := k) HP.out, List.append_assoc]; rfl, hbel.trans hb1⟩
      case measure => simp only [intOf]; omega
/-- spec.NatOf: the limbs of a number. -/
theorem NatOf_any (m : Nat) (w : World) (hm : m ≤ 9223372036854775807) :
    Calls Tryz.prog 151 #[.int .i64 m] w fun e w' => ∃ v, e = .returned v ∧ NatV w' w.heap.size w'.heap.size v m ∧ Below w.heap.size w w' := by
  have hm3 : (limbs m).length ≤ 3 := limbs_length_le.2 (by simp only [bp, B]; omega)
  go_enter Tryz.func151, Tryz.ntmps151
  go_wp2
  go_loopw [0, 3] (fun nv v wr => ∃ (k : Nat) (out : List Int), nv = .int .i64 k ∧ k ≤ m ∧ OwnI 3 wr w.heap.size v out ∧ out ++ limbs k = limbs m ∧ Below w.heap.size w wr) (fun nv _ _ => (intOf nv).toNat)
  case atStart =>
    exact ⟨m, [], rfl, Nat.le_refl _, OwnI.made _ w #[] 0 (Nat.le_refl _) (Nat.zero_le _) rfl, rfl, (Below.refl _ _).alloc (Nat.le_refl _) _⟩
  case round =>
    obtain ⟨k, out, rfl, hk, hown, hlist, hbel⟩ := hrel
    have HL := Lib.hid hlist
    have hlen : out.length + (limbs k).length = (limbs m).length := by rw [← List.length_append, hlist]
    clear hlist
    rcases Nat.eq_zero_or_pos k with h0 | h0
    · subst h0
      clear hlen hm3
      go_wp2
      go_ret
      refine ⟨_, rfl, ?_, hbel⟩
      have := HL.out
      rw [limbs_zero, List.append_nil] at this
      rw [NatV, ← this]
      exact hown.ints
    · have hlen2 : out.length < 1099511627776 := by omega
      have HP := Lib.hid h0
      clear hlen hm3
      go_wp2_with (at_builtin; refine push_int Tryz.underlying22 info_int _ _ _ rfl rfl rfl hown rfl hlen2 hbel.size ?_; intro v1 w1 hown1 hg1 hb1)
      go_roundw
      case rel => exact ⟨k / 1000000000, _, by go_num, by omega, hown1, by rw [← HL.out, limbs_pos (n := k) HP.out, List.append_assoc]; rfl, hbel.trans hb1⟩
      case measure => simp only [intOf]; omega

/-- impl.natOf at any integer from 0 on. -/
theorem natOf_z (z : Int) (w : World) (h0 : 0 ≤ z) (hm : z ≤ 9223372036854775807) :
    Calls Tryz.prog 164 #[.int .i64 z] w fun e w' => ∃ v, e = .returned v ∧ NatV w' w.heap.size w'.heap.size v z.toNat ∧ Below w.heap.size w w' := by
  obtain ⟨m, rfl⟩ := Int.eq_ofNat_of_zero_le h0
  rw [Int.toNat_natCast]
  exact natOf_any m w (by omega)
/-- spec.NatOf at any integer from 0 on. -/
theorem NatOf_z (z : Int) (w : World) (h0 : 0 ≤ z) (hm : z ≤ 9223372036854775807) :
    Calls Tryz.prog 151 #[.int .i64 z] w fun e w' => ∃ v, e = .returned v ∧ NatV w' w.heap.size w'.heap.size v z.toNat ∧ Below w.heap.size w w' := by
  obtain ⟨m, rfl⟩ := Int.eq_ofNat_of_zero_le h0
  rw [Int.toNat_natCast]
  exact NatOf_any m w (by omega)

end Go.Proofs.YtnpfmmdekjjnjaaGreatDoor
