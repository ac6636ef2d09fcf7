/- Contracts over natural numbers as lists of limbs: differences and sums. -/
import Derived.Test.YtnpfmmdekjjnjaaGreatDoorNat1
import Derived.Test.YtnpfmmdekjjnjaaGreatDoorAPlain
namespace Go.Proofs.YtnpfmmdekjjnjaaGreatDoor
open Go Go.RowKit Pl

theorem iv_snoc (l : List Int) (x : Int) : Value.int .i64 ((l.length : Int) + 1) = .int .i64 ((l ++ [x]).length : Nat) := by rw [List.length_append, List.length_singleton]; rfl
theorem len_snoc {l : List Int} {x : Int} {n : Nat} (h : l.length < n) : (l ++ [x]).length ≤ n := by rw [List.length_append, List.length_singleton]; exact h

set_option maxHeartbeats 400000 in
/-- natSub: a difference. -/
theorem natSub_any (m n : Nat) (va vb : Value) (w : World) (ha : NatV w 0 w.heap.size va m) (hb : NatV w 0 w.heap.size vb n) (hmn : n ≤ m) (hm : (limbs m).length ≤ 1000) :
    Calls Tryz.prog 166 #[va, vb] w fun e w' => ∃ v, e = .returned v ∧ NatV w' w.heap.size w'.heap.size v (m - n) ∧ Below w.heap.size w w' := by
  have oa := okL_limbs m
  have ob := okL_limbs n
  have hend := fun out bor => sub_end (m := m) (n := n) (out := out) (bor := bor) hmn
  have hln : (limbs n).length ≤ (limbs m).length := by
    rw [limbs_length_le]
    have := val_lt oa
    rw [val_limbs] at this
    omega
  unfold NatV at ha hb
  have HE := Lib.hid hend
  clear hend
  generalize limbs m = a at *
  generalize limbs n = b at *
  obtain ⟨p, c, rfl, _, _⟩ := ha.form
  go_enter Tryz.func166, Tryz.ntmps166
  go_wp2_with (at_make; refine make_int Tryz.underlying22 info_int w.heap.size _ a.length _ rfl rfl rfl rfl (by omega) (Nat.le_refl _) ?_; intro v0 w0 hown0 hb0)
  go_loopw [5, 6, 14] (fun v bo iv wr => ∃ (out : List Int) (bor : Int), out.length ≤ a.length ∧ iv = .int .i64 out.length ∧ bo = .int .i64 bor ∧ OwnI 3 wr w.heap.size v out ∧ SubInv a b out bor ∧ Below w.heap.size w wr) (fun _ _ iv _ => a.length - (intOf iv).toNat)
  case atStart => exact ⟨[], 0, Nat.zero_le _, rfl, rfl, hown0, sub_start a b, hb0⟩
  case round =>
    obtain ⟨out, bor, hlen, rfl, rfl, hown, hinv, hbel⟩ := hrel
    clear hown0 hb0
    rcases Nat.lt_or_ge out.length a.length with hk | hk
    · have ha' := ha.on hbel
      have hb' := hb.on hbel
      obtain ⟨b1, o1, rfl, _, c1⟩ := ha'.at_ hk
      have xa := nth_ok oa out.length
      have xb := nth_ok ob out.length
      simp only [B] at xa xb
      have hbo : 0 ≤ bor ∧ bor ≤ 1 := by rcases hinv.2.1 with h | h <;> omega
      have hlimb := fun (W : World) (hW : Drew wr W) => limb_any b out.length vb W wr.heap.size (hb'.drew hW) (by omega)
      have HB := Lib.hid hlimb
      clear hlimb
      by_cases hneg : nth a out.length - nth b out.length - bor < 0
      · go_wp2
        go_quiet ((go_at_call 177; exact quiet1 (as_drew (HB.out _ (Drew.n _ _)))))
        go_wp2_with (at_builtin; refine push_int Tryz.underlying22 info_int _ _ _ rfl rfl rfl (hown.drewN nq) rfl (by omega) hbel.size ?_; intro v1 w1 hown1 hg1 hb1)
        go_roundw
        case rel => exact ⟨_, 1, len_snoc hk, iv_snoc _ _, rfl, hown1, sub_step_neg oa ob hinv rfl rfl hneg, hbel.trans ((below_drewN _ _).mono hbel.size |>.trans hb1)⟩
        case measure => simp only [intOf]; omega
      · have hpos : 0 ≤ nth a out.length - nth b out.length - bor := by omega
        go_wp2
        go_quiet ((go_at_call 177; exact quiet1 (as_drew (HB.out _ (Drew.n _ _)))))
        go_wp2_with (at_builtin; refine push_int Tryz.underlying22 info_int _ _ _ rfl rfl rfl (hown.drewN nq) rfl (by omega) hbel.size ?_; intro v1 w1 hown1 hg1 hb1)
        go_roundw
        case rel => exact ⟨_, 0, len_snoc hk, iv_snoc _ _, rfl, hown1, sub_step_pos oa ob hinv rfl rfl hpos, hbel.trans ((below_drewN _ _).mono hbel.size |>.trans hb1)⟩
        case measure => simp only [intOf]; omega
    · have HX : Hid (out.length = a.length) := by show out.length = a.length; omega
      go_wp2_with (go_at_call 123; refine (trimmed_any out _ _ w.heap.size wr.heap.size hown.ints).mono ?_; rintro e w' ⟨⟨v', rfl, hv'⟩, rfl⟩)
      go_ret
      refine ⟨_, rfl, ?_, hbel⟩
      rw [HE.out out bor hinv HX.out] at hv'
      exact hv'

set_option maxHeartbeats 800000 in
/-- The reference's difference. -/
theorem l02Sub_any (m n : Nat) (va vb : Value) (w : World) (ha : NatV w 0 w.heap.size va m) (hb : NatV w 0 w.heap.size vb n) (hmn : n ≤ m) (hm : (limbs m).length ≤ 1000) :
    Calls Tryz.prog 160 #[va, vb] w fun e w' => ∃ v, e = .returned v ∧ NatV w' w.heap.size w'.heap.size v (m - n) ∧ Below w.heap.size w w' := by
  have oa := okL_limbs m
  have ob := okL_limbs n
  have hend := fun out bor => sub_end (m := m) (n := n) (out := out) (bor := bor) hmn
  have hln : (limbs n).length ≤ (limbs m).length := by
    rw [limbs_length_le]
    have := val_lt oa
    rw [val_limbs] at this
    omega
  unfold NatV at ha hb
  have HE := Lib.hid hend
  clear hend
  generalize limbs m = a at *
  generalize limbs n = b at *
  obtain ⟨p, c, rfl, _, _⟩ := ha.form
  obtain ⟨q, d, rfl, _, _⟩ := hb.form
  go_enter Tryz.func160, Tryz.ntmps160
  go_wp2
  go_loopw [5, 6, 12] (fun v bo iv wr => ∃ (out : List Int) (bor : Int), out.length ≤ a.length ∧ iv = .int .i64 out.length ∧ bo = .int .i64 bor ∧ OwnI 3 wr w.heap.size v out ∧ SubInv a b out bor ∧ Below w.heap.size w wr) (fun _ _ iv _ => a.length - (intOf iv).toNat)
  case atStart => exact ⟨[], 0, Nat.zero_le _, rfl, rfl, OwnI.made _ w #[] 0 (Nat.le_refl _) (Nat.zero_le _) rfl, sub_start a b, (Below.refl _ _).alloc (Nat.le_refl _) _⟩
  case round =>
    obtain ⟨out, bor, hlen, rfl, rfl, hown, hinv, hbel⟩ := hrel
    rcases Nat.lt_or_ge out.length a.length with hk | hk
    · have ha' := ha.on hbel
      have hb' := hb.on hbel
      obtain ⟨b1, o1, rfl, _, c1⟩ := ha'.at_ hk
      have xa := nth_ok oa out.length
      have xb := nth_ok ob out.length
      simp only [B] at xa xb
      have hbo : 0 ≤ bor ∧ bor ≤ 1 := by rcases hinv.2.1 with h | h <;> omega
      have sneg := fun (z : Int) (hz : z = nth a out.length - nth b out.length - bor) (h0 : z < 0) => sub_step_neg oa ob hinv rfl hz h0
      have spos := fun (z : Int) (hz : z = nth a out.length - nth b out.length - bor) (h0 : 0 ≤ z) => sub_step_pos oa ob hinv rfl hz h0
      have SN := Lib.hid sneg
      have SP := Lib.hid spos
      clear sneg spos hinv
      rcases Nat.lt_or_ge out.length b.length with hkb | hkb
      · obtain ⟨b2, o2, rfl, _, c2⟩ := hb'.at_ hkb
        by_cases hneg : nth a out.length - bor - nth b out.length < 0
        · go_wp2_with (at_builtin; refine push_int Tryz.underlying22 info_int _ _ _ rfl rfl rfl hown rfl (by omega) hbel.size ?_; intro v1 w1 hown1 hg1 hb1)
          go_roundw
          case rel => exact ⟨_, 1, len_snoc hk, iv_snoc _ _, rfl, hown1, SN.out _ (by omega) hneg, hbel.trans hb1⟩
          case measure => simp only [intOf]; omega
        · have hpos : 0 ≤ nth a out.length - bor - nth b out.length := by omega
          go_wp2_with (at_builtin; refine push_int Tryz.underlying22 info_int _ _ _ rfl rfl rfl hown rfl (by omega) hbel.size ?_; intro v1 w1 hown1 hg1 hb1)
          go_roundw
          case rel => exact ⟨_, 0, len_snoc hk, iv_snoc _ _, rfl, hown1, SP.out _ (by omega) hpos, hbel.trans hb1⟩
          case measure => simp only [intOf]; omega
      · have HZ : Hid (nth b out.length = 0) := nth_ge hkb
        by_cases hneg : nth a out.length - bor < 0
        · go_wp2_with (at_builtin; refine push_int Tryz.underlying22 info_int _ _ _ rfl rfl rfl hown rfl (by omega) hbel.size ?_; intro v1 w1 hown1 hg1 hb1)
          go_roundw
          case rel => exact ⟨_, 1, len_snoc hk, iv_snoc _ _, rfl, hown1, SN.out _ (by have := HZ.out; omega) hneg, hbel.trans hb1⟩
          case measure => simp only [intOf]; omega
        · have hpos : 0 ≤ nth a out.length - bor := by omega
          go_wp2_with (at_builtin; refine push_int Tryz.underlying22 info_int _ _ _ rfl rfl rfl hown rfl (by omega) hbel.size ?_; intro v1 w1 hown1 hg1 hb1)
          go_roundw
          case rel => exact ⟨_, 0, len_snoc hk, iv_snoc _ _, rfl, hown1, SP.out _ (by have := HZ.out; omega) hpos, hbel.trans hb1⟩
          case measure => simp only [intOf]; omega
    · have HX : Hid (out.length = a.length) := by show out.length = a.length; omega
      go_wp2_with (go_at_call 109; refine (l02Trim_any out _ _ w.heap.size wr.heap.size hown.ints).mono ?_; rintro e w' ⟨⟨v', rfl, hv'⟩, rfl⟩)
      go_ret
      refine ⟨_, rfl, ?_, hbel⟩
      rw [HE.out out bor hinv HX.out] at hv'
      exact hv'

set_option maxHeartbeats 1600000 in
/-- The reference's sum. -/
theorem l02Add_any (m n : Nat) (va vb : Value) (w : World) (ha : NatV w 0 w.heap.size va m) (hb : NatV w 0 w.heap.size vb n) (hm : (limbs (m + n)).length ≤ 1000) :
    Calls Tryz.prog 168 #[va, vb] w fun e w' => ∃ v, e = .returned v ∧ NatV w' w.heap.size w'.heap.size v (m + n) ∧ Below w.heap.size w w' := by
  have ca := canon_limbs m
  have cb := canon_limbs n
  have hst := add_start m n
  have hla : (limbs m).length ≤ (limbs (m + n)).length := by
    rw [limbs_length_le]
    have := val_lt (okL_limbs (m + n))
    rw [val_limbs] at this
    omega
  have hlb : (limbs n).length ≤ (limbs (m + n)).length := by
    rw [limbs_length_le]
    have := val_lt (okL_limbs (m + n))
    rw [val_limbs] at this
    omega
  unfold NatV at ha hb
  have HS := Lib.hid hst
  clear hst
  generalize limbs m = a at *
  generalize limbs n = b at *
  obtain ⟨p, c, rfl, _, _⟩ := ha.form
  obtain ⟨q, d, rfl, _, _⟩ := hb.form
  go_enter Tryz.func168, Tryz.ntmps168
  go_wp2
  go_loopw [5, 6, 7] (fun v cv iv wr => ∃ (out : List Int) (k carry : Nat), iv = .int .i64 k ∧ cv = .int .i64 carry ∧ k = out.length ∧ carry ≤ 1 ∧ OwnI 3 wr w.heap.size v out ∧ out ++ limbs (rest a b k carry) = limbs (m + n) ∧ Below w.heap.size w wr) (fun _ _ iv _ => (limbs (m + n)).length - (intOf iv).toNat)
  case atStart => exact ⟨[], 0, 0, rfl, rfl, rfl, Nat.zero_le _, OwnI.made _ w #[] 0 (Nat.le_refl _) (Nat.zero_le _) rfl, HS.out, (Below.refl _ _).alloc (Nat.le_refl _) _⟩
  case round =>
    obtain ⟨out, k, carry, rfl, rfl, hkl, hc1, hown, hlist, hbel⟩ := hrel
    have HL := Lib.hid hlist
    have HK := Lib.hid hkl
    have hle := add_len hlist
    have hke : k ≤ 1000 := by omega
    have hol : out.length < 1099511627776 := by omega
    clear hlist hkl
    have ha' := ha.on hbel
    have hb' := hb.on hbel
    have xa := nth_ok ca.1 k
    have xb := nth_ok cb.1 k
    simp only [B] at xa xb
    -- what the end of a round owes
    have hround : ∀ (s : Int) (v1 : Value) (w1 : World), s = nth a k + nth b k + carry → 0 < rest a b k carry → OwnI 3 w1 w.heap.size v1 (out ++ [s % 1000000000]) → Below w.heap.size w w1 →
        ∃ (out' : List Int) (k' carry' : Nat), (Value.int .i64 ((k : Int) + 1)) = .int .i64 k' ∧ (Value.int .i64 (s / 1000000000)) = .int .i64 carry' ∧ k' = out'.length ∧ carry' ≤ 1 ∧ OwnI 3 w1 w.heap.size v1 out' ∧ out' ++ limbs (rest a b k' carry') = limbs (m + n) ∧ Below w.heap.size w w1 := by
      intro s v1 w1 hs hp ho hb1
      refine ⟨out ++ [s % 1000000000], k + 1, (s / 1000000000).toNat, by go_num, ?_, by rw [List.length_append, List.length_singleton, ← HK.out], by omega, ho, ?_, hb1⟩
      · congr 1; omega
      · exact add_step ca.1 cb.1 HL.out hs hp
    have HR := Lib.hid hround
    clear hround
    rcases Nat.lt_or_ge k a.length with hka | hka
    · have hp := add_pos_left (b := b) (carry := carry) ca hka
      obtain ⟨b1, o1, rfl, _, c1⟩ := ha'.at_ hka
      have HP := Lib.hid hp
      clear hp
      rcases Nat.lt_or_ge k b.length with hkb | hkb
      · obtain ⟨b2, o2, rfl, _, c2⟩ := hb'.at_ hkb
        go_wp2_with (at_builtin; refine push_int Tryz.underlying22 info_int _ _ _ rfl rfl rfl hown rfl hol hbel.size ?_; intro v1 w1 hown1 hg1 hb1)
        go_roundw
        case rel => exact HR.out _ _ _ (by omega) HP.out hown1 (hbel.trans hb1)
        case measure => simp only [intOf]; omega
      · have HZ : Hid (nth b k = 0) := nth_ge hkb
        go_wp2_with (at_builtin; refine push_int Tryz.underlying22 info_int _ _ _ rfl rfl rfl hown rfl hol hbel.size ?_; intro v1 w1 hown1 hg1 hb1)
        go_roundw
        case rel => exact HR.out _ _ _ (by have := HZ.out; omega) HP.out hown1 (hbel.trans hb1)
        case measure => simp only [intOf]; omega
    · have HZa : Hid (nth a k = 0) := nth_ge hka
      rcases Nat.lt_or_ge k b.length with hkb | hkb
      · obtain ⟨b2, o2, rfl, _, c2⟩ := hb'.at_ hkb
        have hp := add_pos_left (b := a) (carry := carry) cb hkb
        rw [rest_comm] at hp
        have HP := Lib.hid hp
        clear hp
        go_wp2_with (at_builtin; refine push_int Tryz.underlying22 info_int _ _ _ rfl rfl rfl hown rfl hol hbel.size ?_; intro v1 w1 hown1 hg1 hb1)
        go_roundw
        case rel => exact HR.out _ _ _ (by have := HZa.out; omega) HP.out hown1 (hbel.trans hb1)
        case measure => simp only [intOf]; omega
      · have HZ : Hid (nth b k = 0) := nth_ge hkb
        by_cases h0 : 0 < carry
        · have HP : Hid (0 < rest a b k carry) := by show 0 < rest a b k carry; unfold rest; omega
          go_wp2_with (at_builtin; refine push_int Tryz.underlying22 info_int _ _ _ rfl rfl rfl hown rfl hol hbel.size ?_; intro v1 w1 hown1 hg1 hb1)
          go_roundw
          case rel => exact HR.out (carry : Int) _ _ (by have := HZ.out; have := HZa.out; omega) HP.out hown1 (hbel.trans hb1)
          case measure => simp only [intOf]; have := add_len_lt HL.out HP.out; have := HK.out; omega
        · have H0 : Hid (carry = 0) := by show carry = 0; omega
          go_wp2
          go_ret
          refine ⟨_, rfl, ?_, hbel⟩
          have e := H0.out
          subst e
          have := add_end HL.out hka hkb
          rw [NatV, ← this]
          exact hown.ints

end Go.Proofs.YtnpfmmdekjjnjaaGreatDoor
