/- Contracts: reading an integer. -/
import Derived.Test.YtnpfmmdekjjnjaaGreatDoorResPlain
namespace Go.Proofs.YtnpfmmdekjjnjaaGreatDoor
open Go Go.RowKit Pl

theorem BigIntOk_zero (v : Value) (w : World) (h : NatV w 0 w.heap.size v 0) :
    Calls Tryz.prog 121 #[.agg #[.bool true, v]] w fun e w' => e = .returned (.bool false) ∧ Below w.heap.size w w' := by
  have hb1 : Below w.heap.size w (w.alloc (.cells #[.bool true, v] 24)) := (Below.refl _ _).alloc (Nat.le_refl _) _
  have HH := Lib.hid (Ints.below h hb1 (Nat.le_refl _))
  unfold NatV at h
  obtain ⟨p, c, rfl, _, _⟩ := h.form
  rw [limbs_zero] at *
  go_enter Tryz.func121, Tryz.ntmps121
  go_wp2_with fail
  refine (NatOk_any 0 _ _ _ (by unfold NatV; rw [limbs_zero]; exact HH.out)).mono ?_
  rintro e w1 ⟨rfl, j, rfl⟩
  rw [decide_eq_true (by rw [limbs_zero]; exact Nat.zero_le _)]
  have hb2 := hb1.trans ((below_drewN _ j).mono hb1.size)
  go_wp2_with fail
  go_ret
  exact ⟨rfl, hb2⟩

set_option maxHeartbeats 1000000 in
theorem ParseBigInt_any (s : List UInt8) (w : World) (hl : s.length ≤ 1099511627776) :
    Calls Tryz.prog 90 #[(Value.string ⟨(s).toArray⟩)] w (ParseBigPost s w) := by
  obtain ⟨t, neg, hcut, hpre, hlt, hiff⟩ : ∃ t neg, Lib.trimPrefix s [45] = t ∧ Lib.hasPrefix s [45] = neg ∧ t.length ≤ s.length ∧ ∀ a n, bigIs s a n ↔ a = neg ∧ Lib.decDigits n = t ∧ (neg = true → 0 < n) ∧ (limbs n).length ≤ 60 := by
    rcases cut45 s with ⟨t, rfl, h1, h2⟩ | ⟨h0, h1, h2⟩
    · exact ⟨t, true, h1, h2, by simp, fun a n => by rw [bigIs_neg]; simp⟩
    · exact ⟨s, false, h1, h2, Nat.le_refl _, fun a n => by rw [bigIs_pos h0]; simp⟩
  have HI := Lib.hid hiff
  clear hiff
  have HCP := Lib.hid (Tryz.strings_CutPrefix ⟨s.toArray⟩ ⟨#[45]⟩ (w.alloc (.cells #[.bool false, .slice none 0 0] 24)))
  have hb1 : Below w.heap.size w (w.alloc (.cells #[.bool false, .slice none 0 0] 24)) := (Below.refl _ _).alloc (Nat.le_refl _) _
  have hrow1 := row_new w #[.bool false, .slice none 0 0] 24
  have HP := Lib.hid (ParseNat_any t (w.alloc (.cells #[.bool false, .slice none 0 0] 24)) (by omega))
  have hsz : w.heap.size < (w.alloc (.cells #[.bool false, .slice none 0 0] 24)).heap.size := by simp
  go_enter Tryz.func90, Tryz.ntmps90
  go_wp2_with fail
  refine HCP.out.mono ?_
  rintro e w1 ⟨rfl, rfl⟩
  clear HCP
  rw [hcut, hpre]
  go_wp2_with fail
  refine HP.out.mono ?_
  rintro e w2 ⟨hb2, ⟨hps, v, rfl, hv⟩ | ⟨hps, rfl⟩⟩
  · have hrow2 := row_on hrow1 hb2
    clear HP hrow1
    generalize w.alloc (.cells #[.bool false, .slice none 0 0] 24) = W1 at *
    obtain ⟨hdn, h60⟩ := parsable_num hps
    clear hps
    have hbw2 := hb1.trans (hb2.mono hb1.size)
    have hlt2 : w.heap.size < w2.heap.size := Nat.lt_of_lt_of_le hsz hb2.size
    have hv' := hv.wide (lo' := w.heap.size) (hi' := w2.heap.size) (by omega) (Nat.le_refl _)
    generalize num t = n at *
    obtain ⟨p, c, rfl, hpc, hcm⟩ := hv.1.form
    by_cases hok : neg = true → 0 < n
    · have HB := Lib.hid (BigIntOk_any neg n _ (w2.alloc (.cells #[.bool neg, .slice p (limbs n).length c] 24)) (Ints.wide (Ints.below hv.ints ((Below.refl w2.heap.size w2).alloc (Nat.le_refl _) _) (Nat.le_refl _)) (Nat.zero_le _) (by simp)) hok)
      have hb3 : Below w2.heap.size w2 (w2.alloc (.cells #[.bool neg, .slice p (limbs n).length c] 24)) := (Below.refl _ _).alloc (Nat.le_refl _) _
      have hrow3 := row_on hrow2 hb3
      have hrow3' := row_new w2 #[.bool neg, .slice p (limbs n).length c] 24
      have HV := Lib.hid hv'
      have HDN := Lib.hid hdn
      have HR2 := Lib.hid hrow2
      have HOK := Lib.hid hok
      have HV0 := Lib.hid hv
      clear hv hv' hdn hrow2 hok hb2
      go_wp2_with fail
      refine HB.out.mono ?_
      rintro e w4 ⟨rfl, hb4⟩
      rw [decide_eq_true h60]
      have r1 := row_on hrow3 hb4
      have r2 := row_on hrow3' hb4
      have R1 := Lib.hid r1
      have c0 := row_cell r1 0
      have c1 := row_cell r1 1
      have f0 := row_frozen r1 0
      have f1 := row_frozen r1 1
      have d0 := row_cell r2 0
      have d1 := row_cell r2 1
      simp only [List.getElem?_toArray, List.getElem?_cons_zero, List.getElem?_cons_succ] at c0 c1 d0 d1
      have HVF := Lib.hid ((((HV0.out.below hb3).below hb4).set (p := ⟨w.heap.size, 0, none⟩) hsz (.bool neg)).set (p := ⟨w.heap.size, 1, none⟩) hsz (.slice p (limbs n).length c))
      have HRF := Lib.hid (row_set (row_set r1 0 (.bool neg)) 1 (.slice p (limbs n).length c))
      have HBF := Lib.hid (((hbw2.trans (hb3.mono hbw2.size)).trans (hb4.mono (hbw2.trans (hb3.mono hbw2.size)).size)).setCell (p := ⟨w.heap.size, 0, none⟩) (Nat.le_refl _) (.bool neg) |>.setCell (p := ⟨w.heap.size, 1, none⟩) (Nat.le_refl _) (.slice p (limbs n).length c))
      have hsf : w2.heap.size ≤ w4.heap.size := Nat.le_trans hb3.size hb4.size
      clear r1 r2 hrow3 hrow3' hb3 hb4 HB HV
      go_wp2_with fail
      refine bodyPost_ret (results_row_tmp rfl _ _ w.heap.size 24 _ (0, 0) _ rfl HRF.out Tryz.underlying24 rfl (by kernel_rfl)) rfl ?_
      exact ⟨HBF.out, .inl ⟨neg, n, _, (HI.out neg n).2 ⟨rfl, HDN.out, HOK.out, h60⟩, rfl, HVF.out.wide (Nat.le_of_lt hsz) (by rw [size_setCell, size_setCell]; exact hsf)⟩⟩
    · have hneg : neg = true := by
        cases neg with
        | true => rfl
        | false => exact absurd (fun h => absurd h Bool.false_ne_true) hok
      have hn0 : n = 0 := Nat.eq_zero_of_not_pos fun h => hok fun _ => h
      subst hneg hn0
      have HB := Lib.hid (BigIntOk_zero _ (w2.alloc (.cells #[.bool true, .slice p (limbs 0).length c] 24)) (Ints.wide (Ints.below hv.ints ((Below.refl w2.heap.size w2).alloc (Nat.le_refl _) _) (Nat.le_refl _)) (Nat.zero_le _) (by simp)))
      have hb3 : Below w2.heap.size w2 (w2.alloc (.cells #[.bool true, .slice p (limbs 0).length c] 24)) := (Below.refl _ _).alloc (Nat.le_refl _) _
      have hrow3 := row_on hrow2 hb3
      have HDN := Lib.hid hdn
      clear hv hv' hdn hrow2 hok hb2
      go_wp2_with fail
      refine HB.out.mono ?_
      rintro e w4 ⟨rfl, hb4⟩
      have r1 := row_on hrow3 hb4
      have hbwf := (hbw2.trans (hb3.mono hbw2.size)).trans (hb4.mono (hbw2.trans (hb3.mono hbw2.size)).size)
      have c0 := row_cell r1 0
      have c1 := row_cell r1 1
      have f0 := row_frozen r1 0
      have f1 := row_frozen r1 1
      simp only [List.getElem?_toArray, List.getElem?_cons_zero, List.getElem?_cons_succ] at c0 c1
      have HRF := Lib.hid (row_set (row_set r1 0 (.bool false)) 1 (.slice none 0 0))
      have HBF := Lib.hid (hbwf.setCell (p := ⟨w.heap.size, 0, none⟩) (Nat.le_refl _) (.bool false) |>.setCell (p := ⟨w.heap.size, 1, none⟩) (Nat.le_refl _) (.slice none 0 0))
      clear r1 hbwf
      clear hrow3 hb3 hb4 HB
      go_wp2_with fail
      refine bodyPost_ret (results_row_tmp rfl _ _ w.heap.size 24 _ (0, 0) _ rfl HRF.out Tryz.underlying24 rfl (by kernel_rfl)) rfl ?_
      refine ⟨HBF.out, .inr ⟨?_, rfl⟩⟩
      rintro ⟨a, m, hm⟩
      obtain ⟨_, h2, h3, _⟩ := (HI.out a m).1 hm
      have := h3 (by trivial)
      rw [decDigits_inj (h2.trans HDN.out.symm)] at this
      omega
  · have hrow2 := row_on hrow1 hb2
    clear HP hrow1
    generalize w.alloc (.cells #[.bool false, .slice none 0 0] 24) = W1 at *
    have hbw2 := hb1.trans (hb2.mono hb1.size)
    have hlt2 : w.heap.size < w2.heap.size := Nat.lt_of_lt_of_le hsz hb2.size
    have c0 := row_cell hrow2 0
    have c1 := row_cell hrow2 1
    have f0 := row_frozen hrow2 0
    have f1 := row_frozen hrow2 1
    simp only [List.getElem?_toArray, List.getElem?_cons_zero, List.getElem?_cons_succ] at c0 c1
    have HRF := Lib.hid (row_on (row_set (row_set hrow2 0 (.bool false)) 1 (.slice none 0 0)) ((Below.refl _ _).alloc (Nat.le_refl _) (.cells #[.bool neg, .slice none 0 0] 24)))
    have HBF := Lib.hid ((hbw2.setCell (p := ⟨w.heap.size, 0, none⟩) (Nat.le_refl _) (.bool false) |>.setCell (p := ⟨w.heap.size, 1, none⟩) (Nat.le_refl _) (.slice none 0 0)).alloc (by rw [size_setCell, size_setCell]; omega) (.cells #[.bool neg, .slice none 0 0] 24))
    clear hrow2 hb2 hb1 hbw2
    have HPS := Lib.hid hps
    clear hps
    go_wp2_with fail
    refine bodyPost_ret (results_row_tmp rfl _ _ w.heap.size 24 _ (0, 0) _ rfl HRF.out Tryz.underlying24 rfl (by kernel_rfl)) rfl ?_
    refine ⟨HBF.out, .inr ⟨?_, rfl⟩⟩
    rintro ⟨a, m, hm⟩
    obtain ⟨_, h2, _, h4⟩ := (HI.out a m).1 hm
    exact HPS.out (h2 ▸ parsable_dec h4)
end Go.Proofs.YtnpfmmdekjjnjaaGreatDoor
