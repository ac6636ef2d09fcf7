/- Contracts: reading an integer: spec.ParseBigInt. PRINTED BY wip/tools/mkbigs.py. -/
import Derived.Test.YtnpfmmdekjjnjaaGreatDoorParseBig
namespace Go.Proofs.YtnpfmmdekjjnjaaGreatDoor
open Go Go.RowKit Pl

theorem ext_one (c : UInt8) (t : List UInt8) : ByteArray.extract ⟨(c :: t).toArray⟩ 1 (t.length + 1) = ⟨t.toArray⟩ := by
  apply ByteArray.ext
  simp

set_option maxHeartbeats 1000000 in
theorem sParseBigInt_any (s : List UInt8) (w : World) (hl : s.length ≤ 1099511627776) :
    Calls Tryz.prog 85 #[(Value.string ⟨(s).toArray⟩)] w (ParseBigPost s w) := by
  have hb1 : Below w.heap.size w (w.alloc (.cells #[.bool false, .slice none 0 0] 24)) := (Below.refl _ _).alloc (Nat.le_refl _) _
  have hrow1 := row_new w #[.bool false, .slice none 0 0] 24
  have hsz : w.heap.size < (w.alloc (.cells #[.bool false, .slice none 0 0] 24)).heap.size := by simp
  rcases s with _ | ⟨c, t⟩
  · have HI := Lib.hid (fun a n => show bigIs [] a n ↔ a = false ∧ Lib.decDigits n = [] ∧ (false = true → 0 < n) ∧ (limbs n).length ≤ 60 by rw [bigIs_pos (by simp)]; simp)
    have HP := Lib.hid (sParseNat_any [] (w.alloc (.cells #[.bool false, .slice none 0 0] 24)) (by simp))
    go_enter Tryz.func85, Tryz.ntmps85
    go_wp2_with fail
    refine HP.out.mono ?_
    rintro e w2 ⟨hb2, ⟨hps, v, rfl, hv⟩ | ⟨hps, rfl⟩⟩
    · have hrow2 := row_on hrow1 hb2
      clear HP hrow1
      generalize w.alloc (.cells #[.bool false, .slice none 0 0] 24) = W1 at *
      obtain ⟨hdn, h60⟩ := parsable_num hps
      clear hps
      have hbw2 := hb1.trans (hb2.mono hb1.size)
      have hlt2 : w.heap.size < w2.heap.size := Nat.lt_of_lt_of_le hsz hb2.size
      have HDN := Lib.hid hdn
      clear hdn
      generalize num [] = n at *
      obtain ⟨p, c, rfl, hpc, hcm⟩ := hv.1.form
      have c0 := row_cell hrow2 0
      have c1 := row_cell hrow2 1
      have f0 := row_frozen hrow2 0
      have f1 := row_frozen hrow2 1
      simp only [List.getElem?_toArray, List.getElem?_cons_zero, List.getElem?_cons_succ] at c0 c1
      have HRF := Lib.hid (row_set (row_set hrow2 0 (.bool false)) 1 (.slice p (limbs n).length c))
      have HBF := Lib.hid (hbw2.setCell (p := ⟨w.heap.size, 0, none⟩) (Nat.le_refl _) (.bool false) |>.setCell (p := ⟨w.heap.size, 1, none⟩) (Nat.le_refl _) (.slice p (limbs n).length c))
      have HVF := Lib.hid ((hv.set (p := ⟨w.heap.size, 0, none⟩) hsz (.bool false)).set (p := ⟨w.heap.size, 1, none⟩) hsz (.slice p (limbs n).length c))
      clear hrow2 hb2 hb1 hbw2 hv
      go_wp2_with fail
      refine bodyPost_ret (results_row_tmp rfl _ _ w.heap.size 24 _ (0, 0) _ rfl HRF.out Tryz.underlying24 rfl (by kernel_rfl)) rfl ?_
      exact ⟨HBF.out, .inl ⟨false, n, _, (HI.out false n).2 ⟨rfl, HDN.out, fun h => absurd h Bool.false_ne_true, h60⟩, rfl, HVF.out.wide (Nat.le_of_lt hsz) (by rw [size_setCell, size_setCell]; exact Nat.le_refl _)⟩⟩
    · have hrow2 := row_on hrow1 hb2
      clear HP hrow1
      generalize w.alloc (.cells #[.bool false, .slice none 0 0] 24) = W1 at *
      have hbw2 := hb1.trans (hb2.mono hb1.size)
      have hlt2 : w.heap.size < w2.heap.size := Nat.lt_of_lt_of_le hsz hb2.size
      have c0 := row_cell hrow2 0
      have c1 := row_cell hrow2 1
      have f0 := row_frozen hrow2 0
      have f1 := row_frozen hrow2 1
      simp only [List.getElem?_toArray, List.getElem?_cons_zero, List.getElem?_cons_succ] at c0 c1
      have HPS := Lib.hid hps
      clear hps
      have HRF := Lib.hid (row_set (row_set hrow2 0 (.bool false)) 1 (.slice none 0 0))
      have HBF := Lib.hid (hbw2.setCell (p := ⟨w.heap.size, 0, none⟩) (Nat.le_refl _) (.bool false) |>.setCell (p := ⟨w.heap.size, 1, none⟩) (Nat.le_refl _) (.slice none 0 0))
      clear hrow2 hb2 hb1 hbw2
      go_wp2_with fail
      refine bodyPost_ret (results_row_tmp rfl _ _ w.heap.size 24 _ (0, 0) _ rfl HRF.out Tryz.underlying24 rfl (by kernel_rfl)) rfl ?_
      refine ⟨HBF.out, .inr ⟨?_, rfl⟩⟩
      rintro ⟨a, m, hm⟩
      obtain ⟨_, h2, _, h4⟩ := (HI.out a m).1 hm
      exact HPS.out (h2 ▸ parsable_dec h4)
  · have hg := fun h' => byte_at (s := c :: t) (i := 0) (by simp) h'
    rw [show (c :: t).getD 0 0 = c from rfl] at hg
    by_cases h45 : c = 45
    · subst h45
      have HI := Lib.hid (fun a n => show bigIs (45 :: t) a n ↔ a = true ∧ Lib.decDigits n = t ∧ (true = true → 0 < n) ∧ (limbs n).length ≤ 60 by rw [bigIs_neg]; simp)
      have HP := Lib.hid (sParseNat_any t (w.alloc (.cells #[.bool false, .slice none 0 0] 24)) (by rw [List.length_cons] at hl; omega))
      go_enter Tryz.func85, Tryz.ntmps85
      go_wp2_with fail
      rw [ext_one]
      refine HP.out.mono ?_
      rintro e w2 ⟨hb2, ⟨hps, v, rfl, hv⟩ | ⟨hps, rfl⟩⟩
      · have hrow2 := row_on hrow1 hb2
        clear HP hrow1
        generalize w.alloc (.cells #[.bool false, .slice none 0 0] 24) = W1 at *
        obtain ⟨hdn, h60⟩ := parsable_num hps
        clear hps
        have hbw2 := hb1.trans (hb2.mono hb1.size)
        have hlt2 : w.heap.size < w2.heap.size := Nat.lt_of_lt_of_le hsz hb2.size
        have HDN := Lib.hid hdn
        clear hdn
        generalize num t = n at *
        obtain ⟨p, c, rfl, hpc, hcm⟩ := hv.1.form
        have c0 := row_cell hrow2 0
        have c1 := row_cell hrow2 1
        have f0 := row_frozen hrow2 0
        have f1 := row_frozen hrow2 1
        simp only [List.getElem?_toArray, List.getElem?_cons_zero, List.getElem?_cons_succ] at c0 c1
        by_cases hn0 : 0 < n
        · have hlp := limbs_length_pos.2 hn0
          have hz : (((limbs n).length : Int) == 0) = false := beq_eq_false_iff_ne.2 (by omega)
          have HN0 := Lib.hid hn0
          have HRF := Lib.hid (row_set (row_set hrow2 0 (.bool true)) 1 (.slice p (limbs n).length c))
          have HBF := Lib.hid (hbw2.setCell (p := ⟨w.heap.size, 0, none⟩) (Nat.le_refl _) (.bool true) |>.setCell (p := ⟨w.heap.size, 1, none⟩) (Nat.le_refl _) (.slice p (limbs n).length c))
          have HVF := Lib.hid ((hv.set (p := ⟨w.heap.size, 0, none⟩) hsz (.bool true)).set (p := ⟨w.heap.size, 1, none⟩) hsz (.slice p (limbs n).length c))
          clear hrow2 hb2 hb1 hbw2 hv
          go_wp2_with fail
          refine bodyPost_ret (results_row_tmp rfl _ _ w.heap.size 24 _ (0, 0) _ rfl HRF.out Tryz.underlying24 rfl (by kernel_rfl)) rfl ?_
          exact ⟨HBF.out, .inl ⟨true, n, _, (HI.out true n).2 ⟨rfl, HDN.out, fun _ => HN0.out, h60⟩, rfl, HVF.out.wide (Nat.le_of_lt hsz) (by rw [size_setCell, size_setCell]; exact Nat.le_refl _)⟩⟩
        · obtain rfl : n = 0 := by omega
          rw [limbs_zero] at *
          have HRF := Lib.hid (row_set (row_set hrow2 0 (.bool false)) 1 (.slice none 0 0))
          have HBF := Lib.hid (hbw2.setCell (p := ⟨w.heap.size, 0, none⟩) (Nat.le_refl _) (.bool false) |>.setCell (p := ⟨w.heap.size, 1, none⟩) (Nat.le_refl _) (.slice none 0 0))
          clear hrow2 hb2 hb1 hbw2
          go_wp2_with fail
          refine bodyPost_ret (results_row_tmp rfl _ _ w.heap.size 24 _ (0, 0) _ rfl HRF.out Tryz.underlying24 rfl (by kernel_rfl)) rfl ?_
          refine ⟨HBF.out, .inr ⟨?_, rfl⟩⟩
          rintro ⟨a, m, hm⟩
          obtain ⟨_, h2, h3, _⟩ := (HI.out a m).1 hm
          have := h3 (by trivial)
          rw [decDigits_inj (h2.trans HDN.out.symm)] at this
          omega
      · have hrow2 := row_on hrow1 hb2
        clear HP hrow1
        generalize w.alloc (.cells #[.bool false, .slice none 0 0] 24) = W1 at *
        have hbw2 := hb1.trans (hb2.mono hb1.size)
        have hlt2 : w.heap.size < w2.heap.size := Nat.lt_of_lt_of_le hsz hb2.size
        have c0 := row_cell hrow2 0
        have c1 := row_cell hrow2 1
        have f0 := row_frozen hrow2 0
        have f1 := row_frozen hrow2 1
        simp only [List.getElem?_toArray, List.getElem?_cons_zero, List.getElem?_cons_succ] at c0 c1
        have HPS := Lib.hid hps
        clear hps
        have HRF := Lib.hid (row_set (row_set hrow2 0 (.bool false)) 1 (.slice none 0 0))
        have HBF := Lib.hid (hbw2.setCell (p := ⟨w.heap.size, 0, none⟩) (Nat.le_refl _) (.bool false) |>.setCell (p := ⟨w.heap.size, 1, none⟩) (Nat.le_refl _) (.slice none 0 0))
        clear hrow2 hb2 hb1 hbw2
        go_wp2_with fail
        refine bodyPost_ret (results_row_tmp rfl _ _ w.heap.size 24 _ (0, 0) _ rfl HRF.out Tryz.underlying24 rfl (by kernel_rfl)) rfl ?_
        refine ⟨HBF.out, .inr ⟨?_, rfl⟩⟩
        rintro ⟨a, m, hm⟩
        obtain ⟨_, h2, _, h4⟩ := (HI.out a m).1 hm
        exact HPS.out (h2 ▸ parsable_dec h4)
    · have hne : ((c.toNat : Int) == 45) = false := by
        rw [beq_eq_false_iff_ne]
        intro e
        exact h45 (UInt8.toNat_inj.1 (by show c.toNat = 45; omega))
      have HI := Lib.hid (fun a n => show bigIs (c :: t) a n ↔ a = false ∧ Lib.decDigits n = c :: t ∧ (false = true → 0 < n) ∧ (limbs n).length ≤ 60 by rw [bigIs_pos (fun u e => h45 (List.cons.inj e).1)]; simp)
      have HP := Lib.hid (sParseNat_any (c :: t) (w.alloc (.cells #[.bool false, .slice none 0 0] 24)) hl)
      go_enter Tryz.func85, Tryz.ntmps85
      go_wp2_with fail
      refine HP.out.mono ?_
      rintro e w2 ⟨hb2, ⟨hps, v, rfl, hv⟩ | ⟨hps, rfl⟩⟩
      · have hrow2 := row_on hrow1 hb2
        clear HP hrow1
        generalize w.alloc (.cells #[.bool false, .slice none 0 0] 24) = W1 at *
        obtain ⟨hdn, h60⟩ := parsable_num hps
        clear hps
        have hbw2 := hb1.trans (hb2.mono hb1.size)
        have hlt2 : w.heap.size < w2.heap.size := Nat.lt_of_lt_of_le hsz hb2.size
        have HDN := Lib.hid hdn
        clear hdn
        generalize num (c :: t) = n at *
        obtain ⟨p, c, rfl, hpc, hcm⟩ := hv.1.form
        have c0 := row_cell hrow2 0
        have c1 := row_cell hrow2 1
        have f0 := row_frozen hrow2 0
        have f1 := row_frozen hrow2 1
        simp only [List.getElem?_toArray, List.getElem?_cons_zero, List.getElem?_cons_succ] at c0 c1
        have HRF := Lib.hid (row_set (row_set hrow2 0 (.bool false)) 1 (.slice p (limbs n).length c))
        have HBF := Lib.hid (hbw2.setCell (p := ⟨w.heap.size, 0, none⟩) (Nat.le_refl _) (.bool false) |>.setCell (p := ⟨w.heap.size, 1, none⟩) (Nat.le_refl _) (.slice p (limbs n).length c))
        have HVF := Lib.hid ((hv.set (p := ⟨w.heap.size, 0, none⟩) hsz (.bool false)).set (p := ⟨w.heap.size, 1, none⟩) hsz (.slice p (limbs n).length c))
        clear hrow2 hb2 hb1 hbw2 hv
        go_wp2_with fail
        refine bodyPost_ret (results_row_tmp rfl _ _ w.heap.size 24 _ (0, 0) _ rfl HRF.out Tryz.underlying24 rfl (by kernel_rfl)) rfl ?_
        exact ⟨HBF.out, .inl ⟨false, n, _, (HI.out false n).2 ⟨rfl, HDN.out, fun h => absurd h Bool.false_ne_true, h60⟩, rfl, HVF.out.wide (Nat.le_of_lt hsz) (by rw [size_setCell, size_setCell]; exact Nat.le_refl _)⟩⟩
      · have hrow2 := row_on hrow1 hb2
        clear HP hrow1
        generalize w.alloc (.cells #[.bool false, .slice none 0 0] 24) = W1 at *
        have hbw2 := hb1.trans (hb2.mono hb1.size)
        have hlt2 : w.heap.size < w2.heap.size := Nat.lt_of_lt_of_le hsz hb2.size
        have c0 := row_cell hrow2 0
        have c1 := row_cell hrow2 1
        have f0 := row_frozen hrow2 0
        have f1 := row_frozen hrow2 1
        simp only [List.getElem?_toArray, List.getElem?_cons_zero, List.getElem?_cons_succ] at c0 c1
        have HPS := Lib.hid hps
        clear hps
        have HRF := Lib.hid (row_set (row_set hrow2 0 (.bool false)) 1 (.slice none 0 0))
        have HBF := Lib.hid (hbw2.setCell (p := ⟨w.heap.size, 0, none⟩) (Nat.le_refl _) (.bool false) |>.setCell (p := ⟨w.heap.size, 1, none⟩) (Nat.le_refl _) (.slice none 0 0))
        clear hrow2 hb2 hb1 hbw2
        go_wp2_with fail
        refine bodyPost_ret (results_row_tmp rfl _ _ w.heap.size 24 _ (0, 0) _ rfl HRF.out Tryz.underlying24 rfl (by kernel_rfl)) rfl ?_
        refine ⟨HBF.out, .inr ⟨?_, rfl⟩⟩
        rintro ⟨a, m, hm⟩
        obtain ⟨_, h2, _, h4⟩ := (HI.out a m).1 hm
        exact HPS.out (h2 ▸ parsable_dec h4)
end Go.Proofs.YtnpfmmdekjjnjaaGreatDoor
