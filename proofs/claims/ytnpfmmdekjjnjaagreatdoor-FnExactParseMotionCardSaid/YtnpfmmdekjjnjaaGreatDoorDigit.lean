/- Contracts: the digit of a long division, the program's (with floats) and the reference's. -/
import Derived.Test.YtnpfmmdekjjnjaaGreatDoorMul
import Derived.Test.YtnpfmmdekjjnjaaGreatDoorAPlain
import Derived.Lib.MinMax
namespace Go.Proofs.YtnpfmmdekjjnjaaGreatDoor
open Go Go.RowKit Pl

/-- Where the middle of the search leads. -/
theorem mid_le {A N mid : Nat} (hN : 0 < N) : cmpI ((N * mid : Nat) : Int) A ≤ 0 ↔ mid ≤ A / N := by
  rw [Nat.le_div_iff_mul_le hN, Nat.mul_comm mid]
  generalize N * mid = x
  unfold cmpI
  constructor
  · intro h
    split at h
    · omega
    · split at h <;> omega
  · intro h
    split
    · omega
    · rw [if_pos (by omega)]; omega

theorem limbs_len_le (n k : Nat) (h : (n : Int) < bp k) : (limbs n).length ≤ k := limbs_length_le.2 h
theorem limbs_small {n : Nat} (h : n < 1000000000) : (limbs n).length ≤ 1 := limbs_len_le n 1 (by simp only [bp, B]; omega)

set_option maxRecDepth 100000 in
set_option maxHeartbeats 2000000 in
/-- digit: the greatest limb by which b can be taken times to be at most a, which is less than b times the base. -/
theorem digit_any (A N : Nat) (va vb : Value) (w : World) (ha : NatV w 0 w.heap.size va A) (hb : NatV w 0 w.heap.size vb N) (hN : 2 ≤ (limbs N).length) (h1 : N ≤ A) (h2 : A < 1000000000 * N)
    (hl : (limbs A).length ≤ 900) :
    Calls Tryz.prog 165 #[va, vb] w fun e w' => e = .returned (.int .i64 ((A / N : Nat) : Int)) ∧ Below w.heap.size w w' := by
  obtain ⟨k, a2, a1, a0, b1, b0, T2, T3, S1, S2, T, D1, D, hS⟩ := Fl.digit_setup hN h1 h2
  obtain ⟨t2, t3, s1, s2, top, d1, by_, q, v, o1, o2, o3, o4, o5, o6, o7, o8, o9, hc⟩ := Fl.guess hS.h2 hS.h1 hS.h0 hS.g1 hS.g0 hS.hb hS.e2 hS.e3 hS.e4 hS.e5 hS.e6 hS.f1 hS.f2 hS.hTD hS.hT
  have hwin := hS.win v hc
  obtain ⟨g, hg⟩ : ∃ g : Nat, g = v / Fl.U := ⟨_, rfl⟩
  rw [← hg] at o9 hwin
  have hwin2 := hS.win
  clear hg hwin2
  have hNp : 0 < N := by
    rcases Nat.eq_zero_or_pos N with h | h
    · subst h; rw [limbs_zero] at hN; simp at hN
    · exact h
  have hmid := fun (mid : Nat) => mid_le (A := A) (N := N) (mid := mid) hNp
  have hq : A / N < 1000000000 := (Nat.div_lt_iff_lt_mul hNp).2 h2
  obtain ⟨Q, hQe⟩ : ∃ Q, A / N = Q := ⟨_, rfl⟩
  simp only [hQe] at hwin hmid hq
  rw [hQe]
  clear hQe
  have r1 := fun (W : World) => run_float_arith (P := Tryz.prog) W .mul 163 .f64 _ _ _ o1
  have r2 := fun (W : World) => run_float_arith (P := Tryz.prog) W .mul 163 .f64 _ _ _ o2
  have r3 := fun (W : World) => run_float_arith (P := Tryz.prog) W .mul 163 .f64 _ _ _ o3
  have r4 := fun (W : World) => run_float_arith (P := Tryz.prog) W .add 163 .f64 _ _ _ o4
  have r5 := fun (W : World) => run_float_arith (P := Tryz.prog) W .add 163 .f64 _ _ _ o5
  have r6 := fun (W : World) => run_float_arith (P := Tryz.prog) W .mul 163 .f64 _ _ _ o6
  have r7 := fun (W : World) => run_float_arith (P := Tryz.prog) W .add 163 .f64 _ _ _ o7
  have r8 := fun (W : World) => run_float_arith (P := Tryz.prog) W .quo 163 .f64 _ _ _ o8
  have r9 := fun (W : World) => run_convert_float_int (P := Tryz.prog) W 163 3 .f64 .i64 _ _ (by kernel_rfl) (by kernel_rfl) o9
  have hlA := ha.len
  have hlB := hb.len
  unfold NatV at ha hb
  have ca := okL_limbs A
  have hz2 : nth (limbs A) ((k : Int) + 2).toNat = a2 := by rw [show ((k : Int) + 2).toNat = k + 2 by omega]; exact hS.x2
  have hz1 : nth (limbs A) ((k : Int) + 2 - 1).toNat = a1 := by rw [show ((k : Int) + 2 - 1).toNat = k + 1 by omega]; exact hS.x1
  have hz0 : nth (limbs A) (k : Int).toNat = a0 := by rw [Int.toNat_natCast]; exact hS.x0
  have hy1 := hS.y1
  have hy0 := hS.y0
  have hlen := hS.len
  have hlenN := hS.lenN
  have hmul := fun (W : World) (mid : Nat) (vm : Value) hva hvm => natMul_any N mid vb vm W hva hvm
  simp only [Fl.fl, Fl.BW] at r1 r2 r3 r4 r5 r6 r7 r8
  clear o1 o2 o3 o4 o5 o6 o7 o8 o9 hc
  have HG := Lib.hid hwin
  have HM := Lib.hid (natMul_any N)
  have hlN : (limbs N).length ≤ 1000 := by
    refine Nat.le_trans ?_ (Nat.le_trans hl (by omega))
    rw [limbs_length_le]
    have := val_lt (okL_limbs A)
    rw [val_limbs] at this
    omega
  have HA := Lib.hid ha
  have HB := Lib.hid hb
  generalize hLA : limbs A = a at *
  generalize hLB : limbs N = b at *
  obtain ⟨p, c, rfl, _, _⟩ := ha.form
  obtain ⟨p', c', hvb, hc1, hc2⟩ := hb.form
  rw [hlenN] at hvb
  subst hvb
  obtain ⟨x1, x2, rfl, _, cy1⟩ := hb.at_ (i := k + 1) (by omega)
  obtain ⟨x3, x4, hx34, _, cy0⟩ := hb.at_ (i := k) (by omega)
  injection hx34 with hx34
  injection hx34 with hx3 hx4 _
  subst hx3 hx4
  rw [hy1] at cy1
  rw [hy0] at cy0
  have hk1000 : k ≤ 1000 := by omega
  have hlen2 : a.length ≤ k + 2 + 1 := by omega
  have HQ := Lib.hid hq
  have HLA := Lib.hid hLA
  have HLB := Lib.hid hLB
  have HZ2 := Lib.hid hz2
  have HZ1 := Lib.hid hz1
  have HZ0 := Lib.hid hz0
  have HMID := Lib.hid hmid
  clear hwin hS hmul hmid hy1 hy0 hlen hlenN hz2 hz1 hz0 hLA hLB hq hN h1 h2 hl hc1 hc2 hlA hlB
  go_enter Tryz.func165, Tryz.ntmps165
  go_wp2_with fail
  refine (limb_z _ _ a2 _ _ _ ha (by omega) (by omega) HZ2.out).mono ?_
  rintro e w' ⟨rfl, rfl⟩
  go_wp2_with fail
  refine (limb_z _ _ a1 _ _ _ ha (by omega) (by omega) HZ1.out).mono ?_
  rintro e w' ⟨rfl, rfl⟩
  go_wp2_with fail
  refine (limb_z _ (k : Int) a0 _ _ _ ha (by omega) (by omega) HZ0.out).mono ?_
  rintro e w' ⟨rfl, rfl⟩
  go_wp2_with fail
  have hw1 : IntKind.i64.wrap ((k : Int) + 2 - 1) = (k : Int) + 1 := by rw [IntWalk.i64_in _ (by omega)]; omega
  have hw2 : ((k : Int) + 1).toNat = k + 1 := by omega
  have hw3 : IntKind.i64.wrap ((k : Int) + 2 - 2) = (k : Int) := by rw [IntWalk.i64_in _ (by omega)]; omega
  go_quiet (fail)
  clear hw1 hw2 hw3 r1 r2 r3 r4 r5 r6 r7
  have hg3 : g ≤ 1000000003 := HG.out.2.2
  go_wp2_with fail
  go_loopw [5, 6] (fun lv hv wr => ∃ lo hi : Int, lv = .int .i64 lo ∧ hv = .int .i64 hi ∧ 0 ≤ lo ∧ hi ≤ 999999999 ∧ lo ≤ (Q : Int) ∧ (Q : Int) ≤ hi ∧ Below w.heap.size w wr) (fun lv hv _ => (intOf hv - intOf lv).toNat)
  case atStart =>
    have e := HG.out
    have e2 := HQ.out
    exact ⟨_, _, rfl, rfl, by omega, by omega, by omega, by omega, (below_drewN _ _)⟩
  case round =>
    obtain ⟨lo, hi, rfl, rfl, hl0, hh9, hlq, hqh, hbel⟩ := hrel
    clear r8 r9 cy1 cy0
    by_cases hlt : lo < hi
    · have hm0 : 0 ≤ (lo + hi + 1) / 2 := by omega
      have hm1 : (lo + hi + 1) / 2 ≤ 999999999 := by omega
      have hm2 : lo < (lo + hi + 1) / 2 := by omega
      have hm3 : (lo + hi + 1) / 2 ≤ hi := by omega
      have ha' := ha.on hbel
      have hb' := hb.on hbel
      have HMI := Lib.hid (HMID.out ((lo + hi + 1) / 2).toNat)
      clear ha hb
      go_wp2_with fail
      refine (natOf_z _ _ hm0 (by omega)).mono ?_
      rintro e w1 ⟨v1, rfl, hv1, hb1⟩
      have hb'' := hb'.on hb1
      have ha'' := ha'.on hb1
      go_wp2_with fail
      refine (HM.out _ _ v1 w1 (by rw [NatV, HLB.out]; exact hb'') (hv1.wide (Nat.zero_le _) (Nat.le_refl _)) hlN (Nat.le_trans (limbs_small (by omega)) (by omega))).mono ?_
      rintro e w2 ⟨v2, rfl, hv2, hb2⟩
      have ha3 := ha''.on hb2
      go_wp2_with fail
      refine (natCmp_any _ A v2 _ w2 w2.heap.size (hv2.wide (Nat.zero_le _) (Nat.le_refl _)) (by rw [NatV, HLA.out]; exact ha3)).mono ?_
      rintro e w3 ⟨rfl, hd⟩
      have hbel3 : Below w.heap.size w w3 := ((hbel.trans (hb1.mono hbel.size)).trans (hb2.mono (Nat.le_trans hbel.size hb1.size))).trans (hd.below.mono (Nat.le_trans hbel.size (Nat.le_trans hb1.size hb2.size)))
      have HBB := Lib.hid hbel3
      clear hbel hb1 hb2 hbel3
      have hmi := HMI.out
      clear HMI
      generalize cmpI ((N * ((lo + hi + 1) / 2).toNat : Nat) : Int) (A : Int) = cv at hmi ⊢
      have HMI := Lib.hid hmi
      clear hmi
      by_cases hq : ((lo + hi + 1) / 2).toNat ≤ Q
      · have hc := HMI.out.2 hq
        go_wp2_with fail
        go_roundw
        case rel => exact ⟨_, hi, rfl, rfl, by omega, by omega, by omega, by omega, HBB.out⟩
        case measure => simp only [intOf]; omega
      · have hc : ¬ cv ≤ 0 := fun h => hq (HMI.out.1 h)
        go_wp2_with fail
        go_roundw
        case rel => exact ⟨lo, _, rfl, rfl, by omega, by omega, by omega, by omega, HBB.out⟩
        case measure => simp only [intOf]; omega
    · have HX : Hid (lo = (Q : Int)) := by show lo = (Q : Int); omega
      go_wp2_with fail
      go_ret
      exact ⟨by rw [← HX.out]; rfl, hbel⟩

set_option maxHeartbeats 1000000 in
/-- The reference's digit: a search alone. -/
theorem l02Digit_any (A N : Nat) (va vb : Value) (w : World) (ha : NatV w 0 w.heap.size va A) (hb : NatV w 0 w.heap.size vb N) (hNp : 0 < N) (h2 : A < 1000000000 * N)
    (hlN0 : (limbs N).length ≤ 900) :
    Calls Tryz.prog 159 #[va, vb] w fun e w' => e = .returned (.int .i64 ((A / N : Nat) : Int)) ∧ Below w.heap.size w w' := by
  have hmid := fun (mid : Nat) => mid_le (A := A) (N := N) (mid := mid) hNp
  have hq : A / N < 1000000000 := (Nat.div_lt_iff_lt_mul hNp).2 h2
  obtain ⟨Q, hQe⟩ : ∃ Q, A / N = Q := ⟨_, rfl⟩
  simp only [hQe] at hmid hq
  rw [hQe]
  clear hQe
  unfold NatV at ha hb
  have HM := Lib.hid (l02Mul_any N)
  have hlN : (limbs N).length ≤ 1000 := by omega
  have HMID := Lib.hid hmid
  generalize hLA : limbs A = a at *
  generalize hLB : limbs N = b at *
  have HLA := Lib.hid hLA
  have HLB := Lib.hid hLB
  have HQ := Lib.hid hq
  clear hLA hLB hmid hq h2 hlN0
  go_enter Tryz.func159, Tryz.ntmps159
  go_wp2_with fail
  go_loopw [5, 6] (fun lv hv wr => ∃ lo hi : Int, lv = .int .i64 lo ∧ hv = .int .i64 hi ∧ 0 ≤ lo ∧ hi ≤ 999999999 ∧ lo ≤ (Q : Int) ∧ (Q : Int) ≤ hi ∧ Below w.heap.size w wr) (fun lv hv _ => (intOf hv - intOf lv).toNat)
  case atStart =>
    have e2 := HQ.out
    exact ⟨_, _, rfl, rfl, by omega, by omega, by omega, by omega, Below.refl _ _⟩
  case round =>
    obtain ⟨lo, hi, rfl, rfl, hl0, hh9, hlq, hqh, hbel⟩ := hrel
    by_cases hlt : lo < hi
    · have hm0 : 0 ≤ (lo + hi + 1) / 2 := by omega
      have hm1 : (lo + hi + 1) / 2 ≤ 999999999 := by omega
      have hm2 : lo < (lo + hi + 1) / 2 := by omega
      have hm3 : (lo + hi + 1) / 2 ≤ hi := by omega
      have ha' := ha.on hbel
      have hb' := hb.on hbel
      have HMI := Lib.hid (HMID.out ((lo + hi + 1) / 2).toNat)
      clear ha hb
      go_wp2_with fail
      refine (NatOf_z _ _ hm0 (by omega)).mono ?_
      rintro e w1 ⟨v1, rfl, hv1, hb1⟩
      have hb'' := hb'.on hb1
      have ha'' := ha'.on hb1
      go_wp2_with fail
      refine (HM.out _ _ v1 w1 (by rw [NatV, HLB.out]; exact hb'') (hv1.wide (Nat.zero_le _) (Nat.le_refl _)) hlN (Nat.le_trans (limbs_small (by omega)) (by omega))).mono ?_
      rintro e w2 ⟨v2, rfl, hv2, hb2⟩
      have ha3 := ha''.on hb2
      go_wp2_with fail
      refine (l02Cmp_any _ A v2 _ w2 w2.heap.size (hv2.wide (Nat.zero_le _) (Nat.le_refl _)) (by rw [NatV, HLA.out]; exact ha3)).mono ?_
      rintro e w3 ⟨rfl, hd⟩
      have hbel3 : Below w.heap.size w w3 := ((hbel.trans (hb1.mono hbel.size)).trans (hb2.mono (Nat.le_trans hbel.size hb1.size))).trans (hd.below.mono (Nat.le_trans hbel.size (Nat.le_trans hb1.size hb2.size)))
      have HBB := Lib.hid hbel3
      clear hbel hb1 hb2 hbel3
      have hmi := HMI.out
      clear HMI
      generalize cmpI ((N * ((lo + hi + 1) / 2).toNat : Nat) : Int) (A : Int) = cv at hmi ⊢
      have HMI := Lib.hid hmi
      clear hmi
      by_cases hq : ((lo + hi + 1) / 2).toNat ≤ Q
      · have hc := HMI.out.2 hq
        go_wp2_with fail
        go_roundw
        case rel => exact ⟨_, hi, rfl, rfl, by omega, by omega, by omega, by omega, HBB.out⟩
        case measure => simp only [intOf]; omega
      · have hc : ¬ cv ≤ 0 := fun h => hq (HMI.out.1 h)
        go_wp2_with fail
        go_roundw
        case rel => exact ⟨lo, _, rfl, rfl, by omega, by omega, by omega, by omega, HBB.out⟩
        case measure => simp only [intOf]; omega
    · have HX : Hid (lo = (Q : Int)) := by show lo = (Q : Int); omega
      go_wp2_with fail
      go_ret
      exact ⟨by rw [← HX.out]; rfl, hbel⟩

end Go.Proofs.YtnpfmmdekjjnjaaGreatDoor
