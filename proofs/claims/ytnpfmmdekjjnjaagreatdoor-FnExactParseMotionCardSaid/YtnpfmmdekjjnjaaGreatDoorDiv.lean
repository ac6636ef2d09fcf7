/- Contracts: long division, the program's and the reference's. -/
import Derived.Test.YtnpfmmdekjjnjaaGreatDoorDigit
import Derived.Test.YtnpfmmdekjjnjaaGreatDoorAPlain
namespace Go.Proofs.YtnpfmmdekjjnjaaGreatDoor
open Go Go.RowKit Pl

/-- The quotient is new; the remainder may be the dividend's own memory. -/
def DivPost (m n : Nat) (w : World) (e : Ending) (w' : World) : Prop :=
  ∃ v u, e = .returned (.tuple #[v, u]) ∧ NatV w' w.heap.size w'.heap.size v (m / n) ∧ NatV w' 0 w'.heap.size u (m % n) ∧ Below w.heap.size w w'

theorem limbs_mono {m n : Nat} (h : m ≤ n) : (limbs m).length ≤ (limbs n).length := by
  rw [limbs_length_le]
  have := val_lt (okL_limbs n)
  rw [val_limbs] at this
  omega
theorem limbs_nxt {a : List Int} {i r N : Nat} (ha : okL a) (hr : r < N) (hN : (limbs N).length ≤ 800) : (limbs (nxt a i r)).length ≤ 801 := by
  refine limbs_len_le _ _ ?_
  have h1 := val_lt (okL_limbs N)
  rw [val_limbs] at h1
  have h2 := bp_le hN
  have h3 := nth_ok ha i
  rw [show 801 = 800 + 1 from rfl, bp_succ]
  unfold nxt
  simp only [B] at *
  omega

theorem one_limb {N : Nat} (h : (limbs N).length = 1) : N < 1000000000 ∧ nth (limbs N) 0 = N := by
  have hN : N < 1000000000 := by
    have := limbs_length_le.1 (Nat.le_of_eq h)
    simp only [bp, B] at this
    omega
  refine ⟨hN, ?_⟩
  have hp : 0 < N := limbs_length_pos.1 (by omega)
  rw [limbs_pos hp]
  simp [nth]
  omega

set_option maxRecDepth 100000 in
set_option maxHeartbeats 2000000 in
/-- impl.natDiv: where the divisor has one limb. -/
theorem natDiv_one (M N : Nat) (va vb : Value) (w : World) (ha : NatV w 0 w.heap.size va M) (hb : NatV w 0 w.heap.size vb N) (h1 : (limbs N).length = 1) (hlM : (limbs M).length ≤ 800) (hge : N ≤ M) :
    Calls Tryz.prog 145 #[va, vb] w (DivPost M N w) := by
  obtain ⟨hN9, hN0⟩ := one_limb h1
  have hNp : 0 < N := limbs_length_pos.1 (by omega)
  have HB := Lib.hid hb
  unfold NatV at hb
  obtain ⟨p, c, rfl, _, _⟩ := hb.form
  obtain ⟨b1, o1, rfl, _, c1⟩ := hb.at_ (i := 0) (by omega)
  rw [hN0, Nat.add_zero] at c1
  rw [h1] at HB ⊢
  have hle1 : ((1 : Nat) : Int) = 1 := rfl
  clear hN0 h1 hb
  have hcmp : ¬ cmpI (M : Int) N < 0 := by
    unfold cmpI
    rw [if_neg (by omega)]
    split <;> omega
  go_enter Tryz.func145, Tryz.ntmps145
  go_wp2_with fail
  refine (natCmp_any M N _ _ w w.heap.size ha HB.out).mono ?_
  rintro e w1 ⟨rfl, jd, rfl⟩
  generalize cmpI (M : Int) (N : Int) = cv at hcmp ⊢
  go_wp2_with fail
  refine (natDivSmall_any M N va _ (Ints.on ha (below_drewN w jd)) hNp hN9 (by omega)).mono ?_
  rintro e w2 ⟨v, rfl, hv, hb2⟩
  go_wp2_with fail
  refine (natOf_any (M % N) w2 (by have := Nat.mod_lt M hNp; omega)).mono ?_
  rintro e w3 ⟨u, rfl, hu, hb3⟩
  go_wp2_with fail
  go_ret2
  exact ⟨v, u, rfl, (Ints.below hv hb3 (Nat.le_refl _)).wide (Nat.le_refl _) hb3.size, hu.wide (Nat.zero_le _) (Nat.le_refl _), ((below_drewN w jd).trans (hb2)).trans (hb3.mono hb2.size)⟩

set_option maxRecDepth 100000 in
set_option maxHeartbeats 4000000 in
/-- impl.natDiv: where the divisor has two limbs or more. -/
theorem natDiv_long (M N : Nat) (va vb : Value) (w : World) (ha : NatV w 0 w.heap.size va M) (hb : NatV w 0 w.heap.size vb N) (h2 : 2 ≤ (limbs N).length) (hlM : (limbs M).length ≤ 800) (hlN : (limbs N).length ≤ 800) (hge : N ≤ M) :
    Calls Tryz.prog 145 #[va, vb] w (DivPost M N w) := by
  have hNp : 0 < N := limbs_length_pos.1 (by omega)
  have HB := Lib.hid hb
  have HEND := Lib.hid (fun out r => long_end (M := M) (N := N) (out := out) (r := r) hNp)
  have oa := okL_limbs M
  unfold NatV at ha
  have HA := Lib.hid ha
  obtain ⟨q, d, rfl, _, _⟩ := Ints.form hb
  have hb1 : (((limbs N).length : Int) == 1) = false := by rw [beq_eq_false_iff_ne]; omega
  generalize hbl : (limbs N).length = bl at hb1 HB h2 hlN ⊢
  have HBL := Lib.hid hbl
  clear hbl hb
  have hcmp : ¬ cmpI (M : Int) N < 0 := by
    unfold cmpI
    rw [if_neg (by omega)]
    split <;> omega
  have HC := Lib.hid (natCmp_any M N va (.slice q bl d) w w.heap.size ha HB.out)
  generalize limbs M = a at *
  obtain ⟨p, c, rfl, _, _⟩ := ha.form
  go_enter Tryz.func145, Tryz.ntmps145
  go_wp2_with fail
  refine HC.out.mono ?_
  rintro e w1 ⟨rfl, jd, rfl⟩
  generalize cmpI (M : Int) (N : Int) = cv at hcmp ⊢
  go_wp2_with (at_make; refine make_full Tryz.underlying22 info_int w.heap.size _ a.length _ rfl rfl rfl rfl (by omega) (Nat.le_refl _) ?_; intro v0 w0 hown0 hb0)
  have hbw0 : Below w.heap.size w w0 := (below_drewN w jd).trans hb0
  have hB1 : w.heap.size ≤ w0.heap.size := hbw0.size
  go_loopw [9, 10] (fun rv iv wr => ∃ (out : List Int) (r : Nat) (i : Int), -1 ≤ i ∧ i < a.length ∧ iv = .int .i64 i ∧ NatV wr w0.heap.size wr.heap.size rv r ∧ OwnI 3 wr w.heap.size v0 out ∧ LongInv a out N (i + 1).toNat r ∧ Below w.heap.size w wr ∧ w0.heap.size ≤ wr.heap.size) (fun _ iv _ => (intOf iv + 1).toNat)
  case atStart =>
    refine ⟨_, 0, _, by omega, by omega, rfl, ?_, hown0.alloc _, ?_, hbw0.alloc hB1 _, by simp⟩
    · rw [NatV, limbs_zero]
      exact ⟨_, 0, rfl, Nat.le_refl _, Nat.zero_le _, (fun h => by cases h), fun h => absurd h (by simp)⟩
    · rw [show ((a.length : Int) - 1 + 1).toNat = a.length by omega]
      exact long_start hNp rfl
  case round =>
    obtain ⟨out, r, i, h1, h2', rfl, hrest, hown, hinv, hbel, hsz⟩ := hrel
    by_cases h0 : 0 ≤ i
    · obtain ⟨j, rfl⟩ := Int.eq_ofNat_of_zero_le h0
      have hj : j < a.length := by omega
      have hinv' : LongInv a out N (j + 1) r := hinv
      obtain ⟨b1, o1, rfl, _, c1⟩ := (ha.on hbel).at_ hj
      obtain ⟨g, cp, rfl, hg1, hg2, cg, fg, hset⟩ := hown.store (i := j) (by rw [hinv'.2.1]; exact hj)
      have hg0 := hown0.block_lt.2
      have hlo := hinv'.2.1
      have hnl := limbs_nxt (i := j) oa hinv'.2.2.1 (by rw [HBL.out]; exact hlN)
      have hrl : (limbs r).length ≤ 800 := Nat.le_trans (limbs_mono (Nat.le_of_lt hinv'.2.2.1)) (by rw [HBL.out]; exact hlN)
      have hnlt := nxt_lt oa hinv'
      have HN := Lib.hid (nxt_list oa j r)
      have HSTEP := Lib.hid (long_step oa hinv' hj hNp)
      have HSKIP := Lib.hid (long_skip oa hinv' hj hNp)
      have HREST := Lib.hid (nxt_rest a j r N)
      have hoj : (j : Int) < (out.length : Int) := by omega
      have hol : out.length ≤ 800 := by omega
      have HLO := Lib.hid hlo
      have hokx := nth_ok oa j
      simp only [B] at hokx
      clear hinv hinv' hlo h0 c1
      obtain ⟨b1', o1', hbo, _, c1⟩ := (ha.on hbel).at_ hj
      injection hbo with hbo
      injection hbo with e1 e2 _
      subst e1 e2
      clear ha hown0 hb0 hbw0
      generalize hnx : nxt a j r = nx at *
      have HNX := Lib.hid hnx
      clear hnx
      go_wp2_with (at_builtin; refine append_ints Tryz.underlying22 info_int (limbs r) _ w0.heap.size wr.heap.size _ _ rfl rfl rfl (OwnI.one _ wr (nth a j) (Nat.le_refl _)) rfl (Ints.keep (w := wr) hrest (fun p hp => World.cell?_alloc_lt wr _ p hp)) (by simp; omega) (by simp) ?_; intro v1 w1 hown1 hg1' hb1')
      have hbr1 : Below wr.heap.size wr w1 := ((Below.refl _ wr).alloc (Nat.le_refl _) _).trans hb1'
      clear hg1' hb1' hrest
      go_wp2_with fail
      refine (trimmed_any _ _ _ wr.heap.size w1.heap.size hown1.ints).mono ?_
      rintro e w2 ⟨⟨v2, rfl, hv2⟩, rfl⟩
      rw [HN.out] at hv2
      have hbw1 : Below w.heap.size w w1 := hbel.trans (hbr1.mono hbel.size)
      have hsz1 : w0.heap.size ≤ w1.heap.size := Nat.le_trans hsz hbr1.size
      have hown1' := hown.below hbr1
      go_wp2_with fail
      refine (natCmp_any nx N v2 _ w1 w1.heap.size (hv2.wide (Nat.zero_le _) (Nat.le_refl _)) (Ints.on HB.out hbw1)).mono ?_
      rintro e w2 ⟨rfl, jd2, rfl⟩
      by_cases hlt : nx < N
      · have hc : cmpI (nx : Int) N < 0 := by rw [cmpI_lt (by omega)]; omega
        generalize cmpI (nx : Int) (N : Int) = cv2 at hc ⊢
        go_wp2_with fail
        go_roundw
        case rel =>
          refine ⟨out, nx, (j : Int) - 1, by omega, by omega, rfl, hv2.wide hsz (Nat.le_refl _), hown1', ?_, hbw1.trans ((below_drewN w1 jd2).mono hbw1.size), hsz1⟩
          rw [show ((j : Int) - 1 + 1).toNat = j by omega]
          exact HSKIP.out hlt
        case measure => simp only [intOf]; omega
      · have hc : ¬ cmpI (nx : Int) N < 0 := by
          unfold cmpI
          rw [if_neg (by omega)]
          split <;> omega
        generalize cmpI (nx : Int) (N : Int) = cv2 at hc ⊢
        have hbw2 : Below w.heap.size w (w1.drewN jd2) := hbw1.trans ((below_drewN w1 jd2).mono hbw1.size)
        have hown2 := hown1'.drewN jd2
        go_wp2_with fail
        refine (digit_any nx N v2 _ (w1.drewN jd2) (Ints.wide (Ints.drewN hv2 jd2) (Nat.zero_le _) (Nat.le_refl _)) (Ints.on HB.out hbw2) (by rw [HBL.out]; exact h2) (by omega) hnlt (by omega)).mono ?_
        rintro e w3 ⟨rfl, hb3⟩
        have hbw3 : Below w.heap.size w w3 := hbw2.trans (hb3.mono hbw2.size)
        have hown3 := hown2.below hb3
        have hv3 : Ints w3 wr.heap.size w3.heap.size v2 (limbs nx) := (Ints.below (Ints.drewN hv2 jd2) hb3 (Nat.le_refl _)).wide (Nat.le_refl _) hb3.size
        have hsz3 : w0.heap.size ≤ w3.heap.size := Nat.le_trans hsz1 hb3.size
        have hqlt : nx / N < 1000000000 := (Nat.div_lt_iff_lt_mul hNp).2 hnlt
        have hNq : N * (nx / N) ≤ nx := Nat.mul_div_le nx N
        obtain ⟨g3, cp3, hg3, _, hg32, cg3, fg3, hset3⟩ := hown3.store (i := j) (by omega)
        injection hg3 with hg3 _ hcp3
        injection hg3 with hg3
        injection hg3 with hg3 _ _
        subst hg3 hcp3
        generalize hqe : nx / N = Q at *
        have HQE := Lib.hid hqe
        generalize hre : nx % N = R at *
        have HS := Lib.hid hset3
        have cq : (w3.setCell ⟨g, j, none⟩ (.int .i64 (Q : Int))).cell? ⟨g, j, none⟩ = some (.int .i64 (Q : Int)) := World.cell?_setCell_same _ _ _ cg3
        have hW : Below w.heap.size w (w3.setCell ⟨g, j, none⟩ (.int .i64 (Q : Int))) := hbw3.setCell (p := ⟨g, j, none⟩) hg1 _
        have hvW : Ints (w3.setCell ⟨g, j, none⟩ (.int .i64 (Q : Int))) wr.heap.size (w3.setCell ⟨g, j, none⟩ (.int .i64 (Q : Int))).heap.size v2 (limbs nx) := by
          rw [size_setCell]
          exact hv3.set (p := ⟨g, j, none⟩) hg2 _
        have hszW : w3.heap.size = (w3.setCell ⟨g, j, none⟩ (.int .i64 (Q : Int))).heap.size := (size_setCell _ _ _).symm
        have hownW := HS.out (Q : Int)
        clear hqe hre hset hset3 hown hown1 hown1' hown2 hown3 cg fg hvW hszW hW hownW
        go_wp2_with fail
        refine (natOf_any Q _ (by omega)).mono ?_
        rintro e w4 ⟨v4, rfl, hv4, hb4⟩
        have hW : Below w.heap.size w (w3.setCell ⟨g, j, none⟩ (.int .i64 (Q : Int))) := hbw3.setCell (p := ⟨g, j, none⟩) hg1 _
        have hvW : Ints (w3.setCell ⟨g, j, none⟩ (.int .i64 (Q : Int))) wr.heap.size (w3.setCell ⟨g, j, none⟩ (.int .i64 (Q : Int))).heap.size v2 (limbs nx) := by
          rw [size_setCell]
          exact hv3.set (p := ⟨g, j, none⟩) hg2 _
        have hownW := HS.out (Q : Int)
        have hszW : wr.heap.size ≤ (w3.setCell ⟨g, j, none⟩ (.int .i64 (Q : Int))).heap.size := by rw [size_setCell]; exact Nat.le_trans hbr1.size hb3.size
        have hszW0 : w0.heap.size ≤ (w3.setCell ⟨g, j, none⟩ (.int .i64 (Q : Int))).heap.size := by rw [size_setCell]; exact hsz3
        generalize w3.setCell ⟨g, j, none⟩ (.int .i64 (Q : Int)) = W3 at *
        have hbw4 := hW.trans (hb4.mono hW.size)
        have hown4 := hownW.below hb4
        have hv24 := (Ints.below hvW hb4 (Nat.le_refl _)).wide (Nat.le_refl _) hb4.size
        go_wp2_with fail
        refine (natMul_any N Q _ v4 w4 (Ints.on HB.out hbw4) (hv4.wide (Nat.zero_le _) (Nat.le_refl _)) (by rw [HBL.out]; omega) (Nat.le_trans (limbs_small (by omega)) (by omega))).mono ?_
        rintro e w5 ⟨v5, rfl, hv5, hb5⟩
        have hown5 := hown4.below hb5
        have hbw5 := hbw4.trans (hb5.mono hbw4.size)
        have hv25 := (Ints.below hv24 hb5 (Nat.le_refl _)).wide (Nat.le_refl _) hb5.size
        go_wp2_with fail
        refine (natSub_any nx (N * Q) v2 v5 w5 (Ints.wide hv25 (Nat.zero_le _) (Nat.le_refl _)) (hv5.wide (Nat.zero_le _) (Nat.le_refl _)) hNq (by omega)).mono ?_
        rintro e w6 ⟨v6, rfl, hv6, hb6⟩
        have hown6 := hown5.below hb6
        have hbw6 := hbw5.trans (hb6.mono hbw5.size)
        rw [HREST.out] at hv6
        have hs5 : w0.heap.size ≤ w5.heap.size := Nat.le_trans hszW0 (Nat.le_trans hb4.size hb5.size)
        have hs6 : w0.heap.size ≤ w6.heap.size := Nat.le_trans hs5 hb6.size
        clear hown4 hown5 hownW hv24 hv25 hvW hW hbw4 hbw5
        go_wp2_with fail
        go_roundw
        case rel =>
          refine ⟨_, R, (j : Int) - 1, by omega, by omega, rfl, hv6.wide hs5 (Nat.le_refl _), hown6, ?_, hbw6, hs6⟩
          rw [show ((j : Int) - 1 + 1).toNat = j by omega]
          exact HSTEP.out
        case measure => simp only [intOf]; omega
    · have HI : Hid (i = -1) := by show i = -1; omega
      go_wp2_with fail
      refine (trimmed_any out _ _ w.heap.size wr.heap.size hown.ints).mono ?_
      rintro e w' ⟨⟨v', rfl, hv'⟩, rfl⟩
      go_wp2_with fail
      go_ret2
      have e := HI.out
      subst e
      obtain ⟨e1, e2⟩ := HEND.out _ _ hinv
      refine ⟨v', _, rfl, ?_, ?_, hbel⟩
      · rw [e1] at hv'
        exact hv'
      · rw [← e2]
        exact hrest.wide (Nat.zero_le _) (Nat.le_refl _)
set_option maxRecDepth 100000 in
set_option maxHeartbeats 2000000 in
/-- spec.l02Div: where the divisor has one limb. -/
theorem l02Div_one (M N : Nat) (va vb : Value) (w : World) (ha : NatV w 0 w.heap.size va M) (hb : NatV w 0 w.heap.size vb N) (h1 : (limbs N).length = 1) (hlM : (limbs M).length ≤ 800) :
    Calls Tryz.prog 138 #[va, vb] w (DivPost M N w) := by
  obtain ⟨hN9, hN0⟩ := one_limb h1
  have hNp : 0 < N := limbs_length_pos.1 (by omega)
  have HB := Lib.hid hb
  unfold NatV at hb
  obtain ⟨p, c, rfl, _, _⟩ := hb.form
  obtain ⟨b1, o1, rfl, _, c1⟩ := hb.at_ (i := 0) (by omega)
  rw [hN0, Nat.add_zero] at c1
  rw [h1] at HB ⊢
  have hle1 : ((1 : Nat) : Int) = 1 := rfl
  clear hN0 h1 hb
  go_enter Tryz.func138, Tryz.ntmps138
  go_wp2_with fail
  refine (l02Small_any M N va _ (Ints.on ha (Below.refl _ _)) hNp hN9 (by omega)).mono ?_
  rintro e w2 ⟨v, rfl, hv, hb2⟩
  go_wp2_with fail
  refine (NatOf_any (M % N) w2 (by have := Nat.mod_lt M hNp; omega)).mono ?_
  rintro e w3 ⟨u, rfl, hu, hb3⟩
  go_wp2_with fail
  go_ret2
  exact ⟨v, u, rfl, (Ints.below hv hb3 (Nat.le_refl _)).wide (Nat.le_refl _) hb3.size, hu.wide (Nat.zero_le _) (Nat.le_refl _), ((Below.refl _ _).trans (hb2)).trans (hb3.mono hb2.size)⟩

set_option maxRecDepth 100000 in
set_option maxHeartbeats 4000000 in
/-- spec.l02Div: where the divisor has two limbs or more. -/
theorem l02Div_long (M N : Nat) (va vb : Value) (w : World) (ha : NatV w 0 w.heap.size va M) (hb : NatV w 0 w.heap.size vb N) (h2 : 2 ≤ (limbs N).length) (hlM : (limbs M).length ≤ 800) (hlN : (limbs N).length ≤ 800) :
    Calls Tryz.prog 138 #[va, vb] w (DivPost M N w) := by
  have hNp : 0 < N := limbs_length_pos.1 (by omega)
  have HB := Lib.hid hb
  have HEND := Lib.hid (fun out r => long_end (M := M) (N := N) (out := out) (r := r) hNp)
  have oa := okL_limbs M
  unfold NatV at ha
  have HA := Lib.hid ha
  obtain ⟨q, d, rfl, _, _⟩ := Ints.form hb
  have hb1 : (((limbs N).length : Int) == 1) = false := by rw [beq_eq_false_iff_ne]; omega
  generalize hbl : (limbs N).length = bl at hb1 HB h2 hlN ⊢
  have HBL := Lib.hid hbl
  clear hbl hb
  generalize limbs M = a at *
  obtain ⟨p, c, rfl, _, _⟩ := ha.form
  go_enter Tryz.func138, Tryz.ntmps138
  go_wp2_with (at_make; refine make_full Tryz.underlying22 info_int w.heap.size _ a.length _ rfl rfl rfl rfl (by omega) (Nat.le_refl _) ?_; intro v0 w0 hown0 hb0)
  have hbw0 : Below w.heap.size w w0 := (Below.refl _ _).trans hb0
  have hB1 : w.heap.size ≤ w0.heap.size := hbw0.size
  go_loopw [9, 10] (fun rv iv wr => ∃ (out : List Int) (r : Nat) (i : Int), -1 ≤ i ∧ i < a.length ∧ iv = .int .i64 i ∧ NatV wr w0.heap.size wr.heap.size rv r ∧ OwnI 3 wr w.heap.size v0 out ∧ LongInv a out N (i + 1).toNat r ∧ Below w.heap.size w wr ∧ w0.heap.size ≤ wr.heap.size) (fun _ iv _ => (intOf iv + 1).toNat)
  case atStart =>
    refine ⟨_, 0, _, by omega, by omega, rfl, ?_, hown0.alloc _, ?_, hbw0.alloc hB1 _, by simp⟩
    · rw [NatV, limbs_zero]
      exact ⟨_, 0, rfl, Nat.le_refl _, Nat.zero_le _, (fun h => by cases h), fun h => absurd h (by simp)⟩
    · rw [show ((a.length : Int) - 1 + 1).toNat = a.length by omega]
      exact long_start hNp rfl
  case round =>
    obtain ⟨out, r, i, h1, h2', rfl, hrest, hown, hinv, hbel, hsz⟩ := hrel
    by_cases h0 : 0 ≤ i
    · obtain ⟨j, rfl⟩ := Int.eq_ofNat_of_zero_le h0
      have hj : j < a.length := by omega
      have hinv' : LongInv a out N (j + 1) r := hinv
      obtain ⟨b1, o1, rfl, _, c1⟩ := (ha.on hbel).at_ hj
      obtain ⟨g, cp, rfl, hg1, hg2, cg, fg, hset⟩ := hown.store (i := j) (by rw [hinv'.2.1]; exact hj)
      have hg0 := hown0.block_lt.2
      have hlo := hinv'.2.1
      have hnl := limbs_nxt (i := j) oa hinv'.2.2.1 (by rw [HBL.out]; exact hlN)
      have hrl : (limbs r).length ≤ 800 := Nat.le_trans (limbs_mono (Nat.le_of_lt hinv'.2.2.1)) (by rw [HBL.out]; exact hlN)
      have hnlt := nxt_lt oa hinv'
      have HN := Lib.hid (nxt_list oa j r)
      have HSTEP := Lib.hid (long_step oa hinv' hj hNp)
      have HSKIP := Lib.hid (long_skip oa hinv' hj hNp)
      have HREST := Lib.hid (nxt_rest a j r N)
      have hoj : (j : Int) < (out.length : Int) := by omega
      have hol : out.length ≤ 800 := by omega
      have HLO := Lib.hid hlo
      have hokx := nth_ok oa j
      simp only [B] at hokx
      clear hinv hinv' hlo h0 c1
      obtain ⟨b1', o1', hbo, _, c1⟩ := (ha.on hbel).at_ hj
      injection hbo with hbo
      injection hbo with e1 e2 _
      subst e1 e2
      clear ha hown0 hb0 hbw0
      generalize hnx : nxt a j r = nx at *
      have HNX := Lib.hid hnx
      clear hnx
      go_wp2_with (at_builtin; refine append_ints Tryz.underlying22 info_int (limbs r) _ w0.heap.size wr.heap.size _ _ rfl rfl rfl (OwnI.one _ wr (nth a j) (Nat.le_refl _)) rfl (Ints.keep (w := wr) hrest (fun p hp => World.cell?_alloc_lt wr _ p hp)) (by simp; omega) (by simp) ?_; intro v1 w1 hown1 hg1' hb1')
      have hbr1 : Below wr.heap.size wr w1 := ((Below.refl _ wr).alloc (Nat.le_refl _) _).trans hb1'
      clear hg1' hb1' hrest
      go_wp2_with fail
      refine (l02Trim_any _ _ _ wr.heap.size w1.heap.size hown1.ints).mono ?_
      rintro e w2 ⟨⟨v2, rfl, hv2⟩, rfl⟩
      rw [HN.out] at hv2
      have hbw1 : Below w.heap.size w w1 := hbel.trans (hbr1.mono hbel.size)
      have hsz1 : w0.heap.size ≤ w1.heap.size := Nat.le_trans hsz hbr1.size
      have hown1' := hown.below hbr1
      go_wp2_with fail
      refine (l02Cmp_any nx N v2 _ w1 w1.heap.size (hv2.wide (Nat.zero_le _) (Nat.le_refl _)) (Ints.on HB.out hbw1)).mono ?_
      rintro e w2 ⟨rfl, jd2, rfl⟩
      by_cases hlt : nx < N
      · have hc : cmpI (nx : Int) N < 0 := by rw [cmpI_lt (by omega)]; omega
        generalize cmpI (nx : Int) (N : Int) = cv2 at hc ⊢
        go_wp2_with fail
        go_roundw
        case rel =>
          refine ⟨out, nx, (j : Int) - 1, by omega, by omega, rfl, hv2.wide hsz (Nat.le_refl _), hown1', ?_, hbw1.trans ((below_drewN w1 jd2).mono hbw1.size), hsz1⟩
          rw [show ((j : Int) - 1 + 1).toNat = j by omega]
          exact HSKIP.out hlt
        case measure => simp only [intOf]; omega
      · have hc : ¬ cmpI (nx : Int) N < 0 := by
          unfold cmpI
          rw [if_neg (by omega)]
          split <;> omega
        generalize cmpI (nx : Int) (N : Int) = cv2 at hc ⊢
        have hbw2 : Below w.heap.size w (w1.drewN jd2) := hbw1.trans ((below_drewN w1 jd2).mono hbw1.size)
        have hown2 := hown1'.drewN jd2
        go_wp2_with fail
        refine (l02Digit_any nx N v2 _ (w1.drewN jd2) (Ints.wide (Ints.drewN hv2 jd2) (Nat.zero_le _) (Nat.le_refl _)) (Ints.on HB.out hbw2) hNp hnlt (by rw [HBL.out]; omega)).mono ?_
        rintro e w3 ⟨rfl, hb3⟩
        have hbw3 : Below w.heap.size w w3 := hbw2.trans (hb3.mono hbw2.size)
        have hown3 := hown2.below hb3
        have hv3 : Ints w3 wr.heap.size w3.heap.size v2 (limbs nx) := (Ints.below (Ints.drewN hv2 jd2) hb3 (Nat.le_refl _)).wide (Nat.le_refl _) hb3.size
        have hsz3 : w0.heap.size ≤ w3.heap.size := Nat.le_trans hsz1 hb3.size
        have hqlt : nx / N < 1000000000 := (Nat.div_lt_iff_lt_mul hNp).2 hnlt
        have hNq : N * (nx / N) ≤ nx := Nat.mul_div_le nx N
        obtain ⟨g3, cp3, hg3, _, hg32, cg3, fg3, hset3⟩ := hown3.store (i := j) (by omega)
        injection hg3 with hg3 _ hcp3
        injection hg3 with hg3
        injection hg3 with hg3 _ _
        subst hg3 hcp3
        generalize hqe : nx / N = Q at *
        have HQE := Lib.hid hqe
        generalize hre : nx % N = R at *
        have HS := Lib.hid hset3
        have cq : (w3.setCell ⟨g, j, none⟩ (.int .i64 (Q : Int))).cell? ⟨g, j, none⟩ = some (.int .i64 (Q : Int)) := World.cell?_setCell_same _ _ _ cg3
        have hW : Below w.heap.size w (w3.setCell ⟨g, j, none⟩ (.int .i64 (Q : Int))) := hbw3.setCell (p := ⟨g, j, none⟩) hg1 _
        have hvW : Ints (w3.setCell ⟨g, j, none⟩ (.int .i64 (Q : Int))) wr.heap.size (w3.setCell ⟨g, j, none⟩ (.int .i64 (Q : Int))).heap.size v2 (limbs nx) := by
          rw [size_setCell]
          exact hv3.set (p := ⟨g, j, none⟩) hg2 _
        have hszW : w3.heap.size = (w3.setCell ⟨g, j, none⟩ (.int .i64 (Q : Int))).heap.size := (size_setCell _ _ _).symm
        have hownW := HS.out (Q : Int)
        clear hqe hre hset hset3 hown hown1 hown1' hown2 hown3 cg fg hvW hszW hW hownW
        go_wp2_with fail
        refine (NatOf_any Q _ (by omega)).mono ?_
        rintro e w4 ⟨v4, rfl, hv4, hb4⟩
        have hW : Below w.heap.size w (w3.setCell ⟨g, j, none⟩ (.int .i64 (Q : Int))) := hbw3.setCell (p := ⟨g, j, none⟩) hg1 _
        have hvW : Ints (w3.setCell ⟨g, j, none⟩ (.int .i64 (Q : Int))) wr.heap.size (w3.setCell ⟨g, j, none⟩ (.int .i64 (Q : Int))).heap.size v2 (limbs nx) := by
          rw [size_setCell]
          exact hv3.set (p := ⟨g, j, none⟩) hg2 _
        have hownW := HS.out (Q : Int)
        have hszW : wr.heap.size ≤ (w3.setCell ⟨g, j, none⟩ (.int .i64 (Q : Int))).heap.size := by rw [size_setCell]; exact Nat.le_trans hbr1.size hb3.size
        have hszW0 : w0.heap.size ≤ (w3.setCell ⟨g, j, none⟩ (.int .i64 (Q : Int))).heap.size := by rw [size_setCell]; exact hsz3
        generalize w3.setCell ⟨g, j, none⟩ (.int .i64 (Q : Int)) = W3 at *
        have hbw4 := hW.trans (hb4.mono hW.size)
        have hown4 := hownW.below hb4
        have hv24 := (Ints.below hvW hb4 (Nat.le_refl _)).wide (Nat.le_refl _) hb4.size
        go_wp2_with fail
        refine (l02Mul_any N Q _ v4 w4 (Ints.on HB.out hbw4) (hv4.wide (Nat.zero_le _) (Nat.le_refl _)) (by rw [HBL.out]; omega) (Nat.le_trans (limbs_small (by omega)) (by omega))).mono ?_
        rintro e w5 ⟨v5, rfl, hv5, hb5⟩
        have hown5 := hown4.below hb5
        have hbw5 := hbw4.trans (hb5.mono hbw4.size)
        have hv25 := (Ints.below hv24 hb5 (Nat.le_refl _)).wide (Nat.le_refl _) hb5.size
        go_wp2_with fail
        refine (l02Sub_any nx (N * Q) v2 v5 w5 (Ints.wide hv25 (Nat.zero_le _) (Nat.le_refl _)) (hv5.wide (Nat.zero_le _) (Nat.le_refl _)) hNq (by omega)).mono ?_
        rintro e w6 ⟨v6, rfl, hv6, hb6⟩
        have hown6 := hown5.below hb6
        have hbw6 := hbw5.trans (hb6.mono hbw5.size)
        rw [HREST.out] at hv6
        have hs5 : w0.heap.size ≤ w5.heap.size := Nat.le_trans hszW0 (Nat.le_trans hb4.size hb5.size)
        have hs6 : w0.heap.size ≤ w6.heap.size := Nat.le_trans hs5 hb6.size
        clear hown4 hown5 hownW hv24 hv25 hvW hW hbw4 hbw5
        go_wp2_with fail
        go_roundw
        case rel =>
          refine ⟨_, R, (j : Int) - 1, by omega, by omega, rfl, hv6.wide hs5 (Nat.le_refl _), hown6, ?_, hbw6, hs6⟩
          rw [show ((j : Int) - 1 + 1).toNat = j by omega]
          exact HSTEP.out
        case measure => simp only [intOf]; omega
    · have HI : Hid (i = -1) := by show i = -1; omega
      go_wp2_with fail
      refine (l02Trim_any out _ _ w.heap.size wr.heap.size hown.ints).mono ?_
      rintro e w' ⟨⟨v', rfl, hv'⟩, rfl⟩
      go_wp2_with fail
      go_ret2
      have e := HI.out
      subst e
      obtain ⟨e1, e2⟩ := HEND.out _ _ hinv
      refine ⟨v', _, rfl, ?_, ?_, hbel⟩
      · rw [e1] at hv'
        exact hv'
      · rw [← e2]
        exact hrest.wide (Nat.zero_le _) (Nat.le_refl _)
/-- natDiv: a quotient by a number that is not 0, and the remainder. -/
theorem natDiv_any (M N : Nat) (va vb : Value) (w : World) (ha : NatV w 0 w.heap.size va M) (hb : NatV w 0 w.heap.size vb N) (hNp : 0 < N) (hlM : (limbs M).length ≤ 800) (hlN : (limbs N).length ≤ 800) :
    Calls Tryz.prog 145 #[va, vb] w (DivPost M N w) := by
  by_cases hlt : M < N
  · have hcmp : cmpI (M : Int) N = -1 := cmpI_lt (by omega)
    have HC := Lib.hid hcmp
    clear hcmp
    go_enter Tryz.func145, Tryz.ntmps145
    go_wp2_with fail
    refine (natCmp_any M N va vb w w.heap.size ha hb).mono ?_
    rintro e w1 ⟨rfl, hd⟩
    rw [HC.out]
    go_wp2_with fail
    go_ret2
    exact ⟨_, _, rfl, by rw [Nat.div_eq_of_lt hlt, NatV, limbs_zero]; exact Ints.nil_ _ _ _, by rw [Nat.mod_eq_of_lt hlt]; exact Ints.on ha hd.below, hd.below⟩
  · have hl : 0 < (limbs N).length := limbs_length_pos.2 hNp
    rcases Nat.lt_or_ge (limbs N).length 2 with h | h
    · exact natDiv_one M N va vb w ha hb (by omega) hlM (by omega)
    · exact natDiv_long M N va vb w ha hb h hlM hlN (by omega)
/-- l02Div: the same of the reference. -/
theorem l02Div_any (M N : Nat) (va vb : Value) (w : World) (ha : NatV w 0 w.heap.size va M) (hb : NatV w 0 w.heap.size vb N) (hNp : 0 < N) (hlM : (limbs M).length ≤ 800) (hlN : (limbs N).length ≤ 800) :
    Calls Tryz.prog 138 #[va, vb] w (DivPost M N w) := by
  have hl : 0 < (limbs N).length := limbs_length_pos.2 hNp
  rcases Nat.lt_or_ge (limbs N).length 2 with h | h
  · exact l02Div_one M N va vb w ha hb (by omega) hlM
  · exact l02Div_long M N va vb w ha hb h hlM hlN

end Go.Proofs.YtnpfmmdekjjnjaaGreatDoor
