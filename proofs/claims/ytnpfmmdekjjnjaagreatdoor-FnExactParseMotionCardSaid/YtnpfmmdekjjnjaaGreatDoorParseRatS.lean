/- Contracts: reading a fraction: spec.ParseRat. PRINTED BY wip/tools/mkrats.py. -/
import Derived.Test.YtnpfmmdekjjnjaaGreatDoorParseRat
import Derived.Test.YtnpfmmdekjjnjaaGreatDoorFmtPointS
namespace Go.Proofs.YtnpfmmdekjjnjaaGreatDoor
open Go Go.RowKit Pl

theorem sFormat_frame {r : Frac} {v : Value} {W w : World} (hW : Below W.heap.size W w) (h : RatV W 0 W.heap.size v r) (hs : r.small) :
    Calls Tryz.prog 87 #[v] w fun e w' => e = .returned (Value.string ⟨(fmtRatO r).toArray⟩) ∧ Below W.heap.size W w' :=
  (sFormatRat_any r v w (h.on hW) hs).mono fun _ _ ⟨h1, h2⟩ => ⟨h1, hW.trans (h2.mono hW.size)⟩
theorem fmtRat_ne (r : Frac) : fmtRat r ≠ [] := by
  have h : fmtBig r.neg r.num ≠ [] := by
    unfold fmtBig
    simp [decDigits_ne]
  unfold fmtRat
  split
  · exact h
  · simp

set_option maxHeartbeats 1000000 in
set_option maxRecDepth 100000 in
theorem sParseRat_any (s : List UInt8) (w : World) (hl : s.length ≤ 2000000) :
    Calls Tryz.prog 61 #[(Value.string ⟨(s).toArray⟩)] w (ParseRatPost s w) := by
  have hb1 : Below w.heap.size w (w.alloc (.cells #[.bool false, .slice none 0 0, .slice none 0 0] 26)) := (Below.refl _ _).alloc (Nat.le_refl _) _
  have hrow1 := row_new w #[.bool false, .slice none 0 0, .slice none 0 0] 26
  have hsz : w.heap.size < (w.alloc (.cells #[.bool false, .slice none 0 0, .slice none 0 0] 26)).heap.size := by simp
  have HSP := Lib.hid (SplitAny_any s 47 (w.alloc (.cells #[.bool false, .slice none 0 0, .slice none 0 0] 26)) (by omega))
  rcases cut_cases 47 s with ⟨hno, _⟩ | ⟨a, b, hno, hs, _⟩
  · go_enter Tryz.func61, Tryz.ntmps61
    go_wp2_with fail
    refine HSP.out.mono ?_
    rintro e w1 ⟨v1, rfl, hown, hbs⟩
    rw [split1_none hno] at hown
    obtain ⟨g, c, rfl, hc, hg, _⟩ := hown.cell (i := 0) (by simp)
    rw [show [s].getD 0 [] = s from rfl] at hc
    have hrow1' := row_on hrow1 hbs
    have hb1' := hb1.trans (hbs.mono hb1.size)
    have hlo : w.heap.size < w1.heap.size := Nat.lt_of_lt_of_le hsz hbs.size
    have HP := Lib.hid (sParseBigInt_any s w1 (by omega))
    clear hown HSP hb1 hrow1 hsz hbs
    go_wp2_with fail
    refine HP.out.mono ?_
    rintro e w2 ⟨hb2, ⟨neg, n, v, hbig, rfl, hv⟩ | ⟨hbig, rfl⟩⟩
    · have hrow2 := row_on hrow1' hb2
      have hbw2 := hb1'.trans (hb2.mono hb1'.size)
      have hlt2 : w.heap.size < w2.heap.size := Nat.lt_of_lt_of_le hlo hb2.size
      clear HP hrow1' hb1' hc
      obtain ⟨p, c', rfl, hpc, hcm⟩ := hv.1.form
      obtain ⟨hb3, hone, hrowR, hsz3⟩ := three_rows w2 neg (.slice p (limbs n).length c')
      have hbwW := hbw2.trans (hb3.mono hbw2.size)
      have hv3 := hv.below hb3
      have hfr := show FreshRat (((w2.alloc (.cells #[.bool neg, .slice p (limbs n).length c'] 24)).alloc (.cells #[.int .i64 1] 3)).alloc (.cells #[.bool neg, .slice p (limbs n).length c', .slice (some ⟨w2.heap.size + 1, 0, none⟩) 1 1] 26)) w1.heap.size (w2.heap.size + 3) (.agg #[.bool neg, .slice p (limbs n).length c', .slice (some ⟨w2.heap.size + 1, 0, none⟩) 1 1]) ⟨neg, n, 1⟩ from ⟨w2.heap.size, _, _, rfl, hb2.size, by omega, hv3, hone, hbig.2.1⟩
      have hrat := hfr.val
      have hrow0 := row_on hrow2 hb3
      rw [← hsz3] at hrat
      have hsm : Frac.small ⟨neg, n, 1⟩ := ⟨hbig.2.2, by show (limbs 1).length ≤ 60; rw [limbs_1]; decide⟩
      have HR := Lib.hid (fun W hW => sFormat_frame (r := ⟨neg, n, 1⟩) (w := W) hW (hrat.wide (Nat.zero_le _) (Nat.le_refl _)) hsm)
      have HNO := Lib.hid (show ¬ (Frac.ok ⟨neg, n, 1⟩ ∧ fmtRat ⟨neg, n, 1⟩ = s) → ¬ ∃ r, ratFits s r from fun h ⟨r, hr⟩ => h (by
        have e := fits_inj_whole hno hbig hr
        rw [← e]; exact ⟨hr.1.1, hr.2⟩))
      have HNEG := Lib.hid hbig.2.1
      have HFRW := Lib.hid hfr
      have hsf : w2.heap.size + 3 ≤ (((w2.alloc (.cells #[.bool neg, .slice p (limbs n).length c'] 24)).alloc (.cells #[.int .i64 1] 3)).alloc (.cells #[.bool neg, .slice p (limbs n).length c', .slice (some ⟨w2.heap.size + 1, 0, none⟩) 1 1] 26)).heap.size := Nat.le_of_eq hsz3.symm
      clear hb2 hrow2 hbw2 hbig hb3 hone hv3 hfr hrat hv
      go_wp2_with fail
      refine (HR.out _ (Below.refl _ _)).mono ?_
      rintro e w6 ⟨rfl, hb6⟩
      have hrowR6 := row_on hrowR hb6
      have hrow06 := row_on hrow0 hb6
      have hbw6 := hbwW.trans (hb6.mono hbwW.size)
      have HR6 := HR.out w6 hb6
      have c0 := row_cell hrowR6 0
      have c1 := row_cell hrowR6 1
      have c2 := row_cell hrowR6 2
      simp only [List.getElem?_toArray, List.getElem?_cons_zero, List.getElem?_cons_succ] at c0 c1 c2
      by_cases hok : Frac.ok ⟨neg, n, 1⟩
      · have hq : fmtRatO ⟨neg, n, 1⟩ = fmtRat ⟨neg, n, 1⟩ := by unfold fmtRatO; rw [if_pos hok]
        rw [hq] at HR6 ⊢
        have hne := fmtRat_ne ⟨neg, n, 1⟩
        have HO := Lib.hid hok
        by_cases hfe : fmtRat ⟨neg, n, 1⟩ = s
        · rw [hfe] at HR6 hne ⊢
          have hsn : (s == ([] : List UInt8)) = false := beq_eq_false_iff_ne.2 hne
          have HFE := Lib.hid hfe
          have HR7 := Lib.hid HR6
          clear hq hok hne hfe HR6
          go_wp2_with fail
          refine HR7.out.mono ?_
          rintro e w7 ⟨rfl, hb7⟩
          have hrowR7 := row_on hrowR hb7
          have hrow07 := row_on hrow0 hb7
          have hbw7 := hbwW.trans (hb7.mono hbwW.size)
          have d0 := row_cell hrowR7 0
          have d1 := row_cell hrowR7 1
          have d2 := row_cell hrowR7 2
          simp only [List.getElem?_toArray, List.getElem?_cons_zero, List.getElem?_cons_succ] at d0 d1 d2
          have e0 := row_cell hrow07 0
          have e1 := row_cell hrow07 1
          have e2 := row_cell hrow07 2
          have f0 := row_frozen hrow07 0
          have f1 := row_frozen hrow07 1
          have f2 := row_frozen hrow07 2
          simp only [List.getElem?_toArray, List.getElem?_cons_zero, List.getElem?_cons_succ] at e0 e1 e2
          have HRF := Lib.hid (row_set (row_set (row_set hrow07 0 (.bool neg)) 1 (.slice p (limbs n).length c')) 2 (.slice (some ⟨w2.heap.size + 1, 0, none⟩) 1 1))
          have HBF := Lib.hid (((hbw7.setCell (p := ⟨w.heap.size, 0, none⟩) (Nat.le_refl _) (.bool neg)).setCell (p := ⟨w.heap.size, 1, none⟩) (Nat.le_refl _) (.slice p (limbs n).length c')).setCell (p := ⟨w.heap.size, 2, none⟩) (Nat.le_refl _) (.slice (some ⟨w2.heap.size + 1, 0, none⟩) 1 1))
          have HVF := Lib.hid ((((HFRW.out.below hb7).set (p := ⟨w.heap.size, 0, none⟩) hlo (.bool neg)).set (p := ⟨w.heap.size, 1, none⟩) hlo (.slice p (limbs n).length c')).set (p := ⟨w.heap.size, 2, none⟩) hlo (.slice (some ⟨w2.heap.size + 1, 0, none⟩) 1 1))
          have HSF := Lib.hid (Nat.le_trans hsf hb7.size)
          clear hrowR hrow0 hbwW HR hb6 hb7 hsf hrowR6 hrow06 hbw6 hrowR7 hrow07 hbw7 c0 c1 c2
          go_wp2_with fail
          refine bodyPost_ret (results_row_tmp rfl _ _ w.heap.size 26 _ (0, 0) _ rfl HRF.out Tryz.underlying26 rfl (by kernel_rfl)) rfl ?_
          exact ⟨HBF.out, .inl ⟨⟨neg, n, 1⟩, _, ⟨⟨HO.out, HNEG.out⟩, HFE.out⟩, rfl, HVF.out.wide (Nat.le_of_lt hlo) (by simp only [size_setCell]; exact HSF.out)⟩⟩
        · have HFE := Lib.hid hfe
          have hqs : (fmtRat ⟨neg, n, 1⟩ == s) = false := beq_eq_false_iff_ne.2 hfe
          have hqn : (fmtRat ⟨neg, n, 1⟩ == ([] : List UInt8)) = false := beq_eq_false_iff_ne.2 hne
          have HR7 := Lib.hid HR6
          clear hq hok hne hfe HR6
          generalize fmtRat ⟨neg, n, 1⟩ = q at hqs hqn HR7 ⊢
          go_wp2_with fail
          refine HR7.out.mono ?_
          rintro e w7 ⟨rfl, hb7⟩
          have hrow07 := row_on hrow0 hb7
          have hbw7 := hbwW.trans (hb7.mono hbwW.size)
          have e0 := row_cell hrow07 0
          have e1 := row_cell hrow07 1
          have e2 := row_cell hrow07 2
          have f0 := row_frozen hrow07 0
          have f1 := row_frozen hrow07 1
          have f2 := row_frozen hrow07 2
          simp only [List.getElem?_toArray, List.getElem?_cons_zero, List.getElem?_cons_succ] at e0 e1 e2
          have HRF := Lib.hid (row_set (row_set (row_set hrow07 0 (.bool false)) 1 (.slice none 0 0)) 2 (.slice none 0 0))
          have HBF := Lib.hid (((hbw7.setCell (p := ⟨w.heap.size, 0, none⟩) (Nat.le_refl _) (.bool false)).setCell (p := ⟨w.heap.size, 1, none⟩) (Nat.le_refl _) (.slice none 0 0)).setCell (p := ⟨w.heap.size, 2, none⟩) (Nat.le_refl _) (.slice none 0 0))
          clear hrowR hrow0 hbwW HR hb6 hb7 hsf hrowR6 hrow06 hbw6 hrow07 hbw7 c0 c1 c2
          go_wp2_with fail
          refine bodyPost_ret (results_row_tmp rfl _ _ w.heap.size 26 _ (0, 0) _ rfl HRF.out Tryz.underlying26 rfl (by kernel_rfl)) rfl ?_
          exact ⟨HBF.out, .inr ⟨HNO.out fun h => HFE.out h.2, rfl⟩⟩
      · have hq : fmtRatO ⟨neg, n, 1⟩ = [] := by unfold fmtRatO; rw [if_neg hok]
        rw [hq]
        have HO := Lib.hid hok
        have e0 := row_cell hrow06 0
        have e1 := row_cell hrow06 1
        have e2 := row_cell hrow06 2
        have f0 := row_frozen hrow06 0
        have f1 := row_frozen hrow06 1
        have f2 := row_frozen hrow06 2
        simp only [List.getElem?_toArray, List.getElem?_cons_zero, List.getElem?_cons_succ] at e0 e1 e2
        have HRF := Lib.hid (row_set (row_set (row_set hrow06 0 (.bool false)) 1 (.slice none 0 0)) 2 (.slice none 0 0))
        have HBF := Lib.hid (((hbw6.setCell (p := ⟨w.heap.size, 0, none⟩) (Nat.le_refl _) (.bool false)).setCell (p := ⟨w.heap.size, 1, none⟩) (Nat.le_refl _) (.slice none 0 0)).setCell (p := ⟨w.heap.size, 2, none⟩) (Nat.le_refl _) (.slice none 0 0))
        clear hrowR hrow0 hbwW HR HR6 hb6 hsf hrowR6 hrow06 hbw6 c0 c1 c2 hq hok
        go_wp2_with fail
        refine bodyPost_ret (results_row_tmp rfl _ _ w.heap.size 26 _ (0, 0) _ rfl HRF.out Tryz.underlying26 rfl (by kernel_rfl)) rfl ?_
        exact ⟨HBF.out, .inr ⟨HNO.out fun h => HO.out h.1, rfl⟩⟩
    · have hrow2 := row_on hrow1' hb2
      have hbw2 := hb1'.trans (hb2.mono hb1'.size)
      have hlt2 : w.heap.size < w2.heap.size := Nat.lt_of_lt_of_le hlo hb2.size
      clear HP hrow1' hb1' hc
      have HNO := Lib.hid (show ¬ ∃ r, ratFits s r from fun ⟨r, hr⟩ => hbig ⟨r.neg, r.num, ((fits_whole hno).1 hr).2.2⟩)
      have g1 : w.heap.size < w2.heap.size + 1 := by omega
      have g2 : w.heap.size < w2.heap.size + 1 + 1 := by omega
      have e0 := row_cell hrow2 0
      have e1 := row_cell hrow2 1
      have e2 := row_cell hrow2 2
      have f0 := row_frozen hrow2 0
      have f1 := row_frozen hrow2 1
      have f2 := row_frozen hrow2 2
      simp only [List.getElem?_toArray, List.getElem?_cons_zero, List.getElem?_cons_succ] at e0 e1 e2
      have HRF := Lib.hid (row_on (row_set (row_set (row_set hrow2 0 (.bool false)) 1 (.slice none 0 0)) 2 (.slice none 0 0)) (alloc3 _ (.cells #[.bool false, .slice none 0 0] 24) (.cells #[.int .i64 1] 3) (.cells #[.bool false, .slice none 0 0, .slice (some ⟨w2.heap.size + 1, 0, none⟩) 1 1] 26)))
      have HBF := Lib.hid ((((hbw2.setCell (p := ⟨w.heap.size, 0, none⟩) (Nat.le_refl _) (.bool false)).setCell (p := ⟨w.heap.size, 1, none⟩) (Nat.le_refl _) (.slice none 0 0)).setCell (p := ⟨w.heap.size, 2, none⟩) (Nat.le_refl _) (.slice none 0 0)).trans ((alloc3 _ (.cells #[.bool false, .slice none 0 0] 24) (.cells #[.int .i64 1] 3) (.cells #[.bool false, .slice none 0 0, .slice (some ⟨w2.heap.size + 1, 0, none⟩) 1 1] 26)).mono (by simp only [size_setCell]; omega)))
      clear hb2 hrow2 hbw2 hbig
      go_wp2_with fail
      refine bodyPost_ret (results_row_tmp rfl _ _ w.heap.size 26 _ (0, 0) _ rfl HRF.out Tryz.underlying26 rfl (by kernel_rfl)) rfl ?_
      exact ⟨HBF.out, .inr ⟨HNO.out, rfl⟩⟩
  · obtain ⟨b1, tl, htl⟩ : ∃ b1 tl, split1 47 b = b1 :: tl := by
      cases h : split1 47 b with
      | nil => exact absurd h (split1_ne _ _)
      | cons x xs => exact ⟨x, xs, rfl⟩
    have hspl : split1 47 s = a :: b1 :: tl := by rw [hs, split1_hit hno, htl]
    have hab : a.length + b.length + 1 = s.length := by rw [hs, List.length_append, List.length_cons]; omega
    have hb1len : b1.length ≤ b.length := by
      rcases cut_cases 47 b with ⟨h1, _⟩ | ⟨x, y, h1, h2, _⟩
      · rw [split1_none h1] at htl
        injection htl with h3 _
        rw [← h3]; exact Nat.le_refl _
      · rw [h2, split1_hit h1] at htl
        injection htl with h3 _
        rw [← h3, h2, List.length_append]; omega
    have HONE := Lib.hid (show ∀ r, ratFits s r → Lib.decDigits r.den = b1 ∧ (limbs r.den).length ≤ 60 ∧ bigIs a r.neg r.num from fun r hr => by
      obtain ⟨_, h2, h3, h4⟩ := fits_parts (b := b) hno (hs ▸ hr)
      have hb : (47 : UInt8) ∉ b := by rw [← h3]; exact dec_no (by decide)
      rw [split1_none hb] at htl
      injection htl with h5 _
      exact ⟨h3.trans h5, h4, h2⟩)
    have HSPL := Lib.hid hspl
    clear hs htl hspl
    go_enter Tryz.func61, Tryz.ntmps61
    go_wp2_with fail
    refine HSP.out.mono ?_
    rintro e w1 ⟨v1, rfl, hown, hbs⟩
    rw [HSPL.out] at hown
    obtain ⟨g, c, rfl, hc0, hg, _⟩ := hown.cell (i := 0) (by simp)
    obtain ⟨g', cg, he, hc1, _, _⟩ := hown.cell (i := 1) (by simp)
    injection he with he _ _
    injection he with he
    injection he with he _ _
    subst he
    rw [show (a :: b1 :: tl).getD 0 [] = a from rfl] at hc0
    rw [show (a :: b1 :: tl).getD 1 [] = b1 from rfl] at hc1
    have htlen : (a :: b1 :: tl).length ≤ maxLen := by
      obtain ⟨_, _, _, h1, h2⟩ := hown.form
      omega
    have hlen2 : 1 < (a :: b1 :: tl).length := by simp
    generalize (a :: b1 :: tl).length = L at *
    have hrow1' := row_on hrow1 hbs
    have hb1' := hb1.trans (hbs.mono hb1.size)
    have hlo : w.heap.size < w1.heap.size := Nat.lt_of_lt_of_le hsz hbs.size
    have HP := Lib.hid (sParseBigInt_any a w1 (by omega))
    clear hown HSP hb1 hrow1 hsz hbs
    go_wp2_with fail
    refine HP.out.mono ?_
    rintro e w2 ⟨hb2, ⟨neg, n, v, hbig, rfl, hv⟩ | ⟨hbig, rfl⟩⟩
    · have hrow2 := row_on hrow1' hb2
      have hbw2 := hb1'.trans (hb2.mono hb1'.size)
      have hlt2 : w.heap.size < w2.heap.size := Nat.lt_of_lt_of_le hlo hb2.size
      have hg2 : g < w2.heap.size := Nat.lt_of_lt_of_le hg hb2.size
      have hg3 : g < w2.heap.size + 1 := by omega
      have k1 : w2.cell? ⟨g, 1, none⟩ = some (Value.string ⟨(b1).toArray⟩) := by rw [hb2.cell hg]; exact hc1
      have hlow2 := hb2.size
      clear HP hrow1' hb1' hc0 hc1
      obtain ⟨p, c', rfl, hpc, hcm⟩ := hv.1.form
      have hb3 : Below w2.heap.size w2 ((w2.alloc (.cells #[.bool neg, .slice p (limbs n).length c'] 24)).alloc (.cells #[.int .i64 1] 3)) := ((Below.refl _ _).alloc (Nat.le_refl _) _).alloc (by simp) _
      have hrowB := row_on (row_new w2 #[.bool neg, .slice p (limbs n).length c'] 24) ((Below.refl _ _).alloc (Nat.le_refl _) (.cells #[.int .i64 1] 3))
      have hrow3 := row_on hrow2 hb3
      have hbw3 := hbw2.trans (hb3.mono hbw2.size)
      have hv3 := hv.below hb3
      have hsz3 : ((w2.alloc (.cells #[.bool neg, .slice p (limbs n).length c'] 24)).alloc (.cells #[.int .i64 1] 3)).heap.size = w2.heap.size + 2 := by simp
      have HN := Lib.hid (sParseNat_any b1 ((w2.alloc (.cells #[.bool neg, .slice p (limbs n).length c'] 24)).alloc (.cells #[.int .i64 1] 3)) (by omega))
      have HBIG := Lib.hid hbig
      clear hb2 hrow2 hbw2 hbig hb3 hv
      go_wp2_with fail
      refine HN.out.mono ?_
      rintro e w4 ⟨hb4, ⟨hps, vd, rfl, hvd⟩ | ⟨hps, rfl⟩⟩
      · have hrow4 := row_on hrow3 hb4
        have hrowB4 := row_on hrowB hb4
        have hbw4 := hbw3.trans (hb4.mono hbw3.size)
        have hv4 := hv3.below hb4
        have hsz4 := hb4.size
        rw [hsz3] at hsz4 hvd
        obtain ⟨hdn, h60⟩ := parsable_num hps
        clear HN hrowB hrow3 hbw3 hv3 hps hb4 hsz3
        generalize num b1 = d at *
        obtain ⟨pd, cd, rfl, hpd, hcd⟩ := hvd.1.form
        have q0 := row_cell hrowB4 0
        have q1 := row_cell hrowB4 1
        simp only [List.getElem?_toArray, List.getElem?_cons_zero, List.getElem?_cons_succ] at q0 q1
        have hb5 : Below w4.heap.size w4 (w4.alloc (.cells #[.bool neg, .slice p (limbs n).length c', .slice pd (limbs d).length cd] 26)) := (Below.refl _ _).alloc (Nat.le_refl _) _
        have hrowR := row_new w4 #[.bool neg, .slice p (limbs n).length c', .slice pd (limbs d).length cd] 26
        have hrow0 := row_on hrow4 hb5
        have hbwW := hbw4.trans (hb5.mono hbw4.size)
        have hfr := show FreshRat (w4.alloc (.cells #[.bool neg, .slice p (limbs n).length c', .slice pd (limbs d).length cd] 26)) w1.heap.size w4.heap.size (.agg #[.bool neg, .slice p (limbs n).length c', .slice pd (limbs d).length cd]) ⟨neg, n, d⟩ from ⟨w2.heap.size, _, _, rfl, hlow2, by omega, hv4.below hb5, (hvd.below hb5).wide (by omega) (Nat.le_refl _), HBIG.out.2.1⟩
        have hsm : Frac.small ⟨neg, n, d⟩ := ⟨HBIG.out.2.2, h60⟩
        have hrat := hfr.val.wide (lo' := 0) (Nat.zero_le _) hb5.size
        have HR := Lib.hid (fun W hW => sFormat_frame (r := ⟨neg, n, d⟩) (w := W) hW hrat hsm)
        have HNO := Lib.hid (show ¬ (Frac.ok ⟨neg, n, d⟩ ∧ fmtRat ⟨neg, n, d⟩ = s) → ¬ ∃ r, ratFits s r from fun h ⟨r, hr⟩ => h (by
          obtain ⟨h1, _, h3⟩ := HONE.out r hr
          obtain ⟨e1, e2⟩ := bigIs_inj h3 HBIG.out
          have e3 := decDigits_inj (h1.trans hdn.symm)
          obtain ⟨rn, rm, rd⟩ := r
          simp only at e1 e2 e3
          subst e1 e2 e3
          exact ⟨hr.1.1, hr.2⟩))
        have HNEG := Lib.hid HBIG.out.2.1
        have HFRW := Lib.hid hfr
        have hsf := hb5.size
        clear hrow4 hbw4 hv4 hvd hrowB4 hb5 hfr hrat hdn
        go_wp2_with fail
        refine (HR.out _ (Below.refl _ _)).mono ?_
        rintro e w6 ⟨rfl, hb6⟩
        have hrowR6 := row_on hrowR hb6
        have hrow06 := row_on hrow0 hb6
        have hbw6 := hbwW.trans (hb6.mono hbwW.size)
        have HR6 := HR.out w6 hb6
        have c0 := row_cell hrowR6 0
        have c1 := row_cell hrowR6 1
        have c2 := row_cell hrowR6 2
        simp only [List.getElem?_toArray, List.getElem?_cons_zero, List.getElem?_cons_succ] at c0 c1 c2
        by_cases hok : Frac.ok ⟨neg, n, d⟩
        · have hq : fmtRatO ⟨neg, n, d⟩ = fmtRat ⟨neg, n, d⟩ := by unfold fmtRatO; rw [if_pos hok]
          rw [hq] at HR6 ⊢
          have hne := fmtRat_ne ⟨neg, n, d⟩
          have HO := Lib.hid hok
          by_cases hfe : fmtRat ⟨neg, n, d⟩ = s
          · rw [hfe] at HR6 hne ⊢
            have hsn : (s == ([] : List UInt8)) = false := beq_eq_false_iff_ne.2 hne
            have HFE := Lib.hid hfe
            have HR7 := Lib.hid HR6
            clear hq hok hne hfe HR6
            go_wp2_with fail
            refine HR7.out.mono ?_
            rintro e w7 ⟨rfl, hb7⟩
            have hrowR7 := row_on hrowR hb7
            have hrow07 := row_on hrow0 hb7
            have hbw7 := hbwW.trans (hb7.mono hbwW.size)
            have d0 := row_cell hrowR7 0
            have d1 := row_cell hrowR7 1
            have d2 := row_cell hrowR7 2
            simp only [List.getElem?_toArray, List.getElem?_cons_zero, List.getElem?_cons_succ] at d0 d1 d2
            have e0 := row_cell hrow07 0
            have e1 := row_cell hrow07 1
            have e2 := row_cell hrow07 2
            have f0 := row_frozen hrow07 0
            have f1 := row_frozen hrow07 1
            have f2 := row_frozen hrow07 2
            simp only [List.getElem?_toArray, List.getElem?_cons_zero, List.getElem?_cons_succ] at e0 e1 e2
            have HRF := Lib.hid (row_set (row_set (row_set hrow07 0 (.bool neg)) 1 (.slice p (limbs n).length c')) 2 (.slice pd (limbs d).length cd))
            have HBF := Lib.hid (((hbw7.setCell (p := ⟨w.heap.size, 0, none⟩) (Nat.le_refl _) (.bool neg)).setCell (p := ⟨w.heap.size, 1, none⟩) (Nat.le_refl _) (.slice p (limbs n).length c')).setCell (p := ⟨w.heap.size, 2, none⟩) (Nat.le_refl _) (.slice pd (limbs d).length cd))
            have HVF := Lib.hid ((((HFRW.out.below hb7).set (p := ⟨w.heap.size, 0, none⟩) hlo (.bool neg)).set (p := ⟨w.heap.size, 1, none⟩) hlo (.slice p (limbs n).length c')).set (p := ⟨w.heap.size, 2, none⟩) hlo (.slice pd (limbs d).length cd))
            have HSF := Lib.hid (Nat.le_trans hsf hb7.size)
            clear hrowR hrow0 hbwW HR hb6 hb7 hsf hrowR6 hrow06 hbw6 hrowR7 hrow07 hbw7 c0 c1 c2
            go_wp2_with fail
            refine bodyPost_ret (results_row_tmp rfl _ _ w.heap.size 26 _ (0, 0) _ rfl HRF.out Tryz.underlying26 rfl (by kernel_rfl)) rfl ?_
            exact ⟨HBF.out, .inl ⟨⟨neg, n, d⟩, _, ⟨⟨HO.out, HNEG.out⟩, HFE.out⟩, rfl, HVF.out.wide (Nat.le_of_lt hlo) (by simp only [size_setCell]; exact HSF.out)⟩⟩
          · have HFE := Lib.hid hfe
            have hqs : (fmtRat ⟨neg, n, d⟩ == s) = false := beq_eq_false_iff_ne.2 hfe
            have hqn : (fmtRat ⟨neg, n, d⟩ == ([] : List UInt8)) = false := beq_eq_false_iff_ne.2 hne
            have HR7 := Lib.hid HR6
            clear hq hok hne hfe HR6
            generalize fmtRat ⟨neg, n, d⟩ = q at hqs hqn HR7 ⊢
            go_wp2_with fail
            refine HR7.out.mono ?_
            rintro e w7 ⟨rfl, hb7⟩
            have hrow07 := row_on hrow0 hb7
            have hbw7 := hbwW.trans (hb7.mono hbwW.size)
            have e0 := row_cell hrow07 0
            have e1 := row_cell hrow07 1
            have e2 := row_cell hrow07 2
            have f0 := row_frozen hrow07 0
            have f1 := row_frozen hrow07 1
            have f2 := row_frozen hrow07 2
            simp only [List.getElem?_toArray, List.getElem?_cons_zero, List.getElem?_cons_succ] at e0 e1 e2
            have HRF := Lib.hid (row_set (row_set (row_set hrow07 0 (.bool false)) 1 (.slice none 0 0)) 2 (.slice none 0 0))
            have HBF := Lib.hid (((hbw7.setCell (p := ⟨w.heap.size, 0, none⟩) (Nat.le_refl _) (.bool false)).setCell (p := ⟨w.heap.size, 1, none⟩) (Nat.le_refl _) (.slice none 0 0)).setCell (p := ⟨w.heap.size, 2, none⟩) (Nat.le_refl _) (.slice none 0 0))
            clear hrowR hrow0 hbwW HR hb6 hb7 hsf hrowR6 hrow06 hbw6 hrow07 hbw7 c0 c1 c2
            go_wp2_with fail
            refine bodyPost_ret (results_row_tmp rfl _ _ w.heap.size 26 _ (0, 0) _ rfl HRF.out Tryz.underlying26 rfl (by kernel_rfl)) rfl ?_
            exact ⟨HBF.out, .inr ⟨HNO.out fun h => HFE.out h.2, rfl⟩⟩
        · have hq : fmtRatO ⟨neg, n, d⟩ = [] := by unfold fmtRatO; rw [if_neg hok]
          rw [hq]
          have HO := Lib.hid hok
          have e0 := row_cell hrow06 0
          have e1 := row_cell hrow06 1
          have e2 := row_cell hrow06 2
          have f0 := row_frozen hrow06 0
          have f1 := row_frozen hrow06 1
          have f2 := row_frozen hrow06 2
          simp only [List.getElem?_toArray, List.getElem?_cons_zero, List.getElem?_cons_succ] at e0 e1 e2
          have HRF := Lib.hid (row_set (row_set (row_set hrow06 0 (.bool false)) 1 (.slice none 0 0)) 2 (.slice none 0 0))
          have HBF := Lib.hid (((hbw6.setCell (p := ⟨w.heap.size, 0, none⟩) (Nat.le_refl _) (.bool false)).setCell (p := ⟨w.heap.size, 1, none⟩) (Nat.le_refl _) (.slice none 0 0)).setCell (p := ⟨w.heap.size, 2, none⟩) (Nat.le_refl _) (.slice none 0 0))
          clear hrowR hrow0 hbwW HR HR6 hb6 hsf hrowR6 hrow06 hbw6 c0 c1 c2 hq hok
          go_wp2_with fail
          refine bodyPost_ret (results_row_tmp rfl _ _ w.heap.size 26 _ (0, 0) _ rfl HRF.out Tryz.underlying26 rfl (by kernel_rfl)) rfl ?_
          exact ⟨HBF.out, .inr ⟨HNO.out fun h => HO.out h.1, rfl⟩⟩
      · have hrow4 := row_on hrow3 hb4
        have hrowB4 := row_on hrowB hb4
        have hbw4 := hbw3.trans (hb4.mono hbw3.size)
        have hsz4 := hb4.size
        rw [hsz3] at hsz4
        have HNO := Lib.hid (show ¬ ∃ r, ratFits s r from fun ⟨r, hr⟩ => hps (by
          obtain ⟨h1, h2, _⟩ := HONE.out r hr
          exact h1 ▸ parsable_dec h2))
        have q0 := row_cell hrowB4 0
        have q1 := row_cell hrowB4 1
        simp only [List.getElem?_toArray, List.getElem?_cons_zero, List.getElem?_cons_succ] at q0 q1
        clear hrowB hrow3 hbw3 hv3 hps hrowB4
        have e0 := row_cell hrow4 0
        have e1 := row_cell hrow4 1
        have e2 := row_cell hrow4 2
        have f0 := row_frozen hrow4 0
        have f1 := row_frozen hrow4 1
        have f2 := row_frozen hrow4 2
        simp only [List.getElem?_toArray, List.getElem?_cons_zero, List.getElem?_cons_succ] at e0 e1 e2
        have g4 : w.heap.size < w4.heap.size := by omega
        have HRF := Lib.hid (row_on (row_set (row_set (row_set hrow4 0 (.bool false)) 1 (.slice none 0 0)) 2 (.slice none 0 0)) ((Below.refl _ _).alloc (Nat.le_refl _) (.cells #[.bool neg, .slice p (limbs n).length c', .slice none 0 0] 26)))
        have HBF := Lib.hid ((((hbw4.setCell (p := ⟨w.heap.size, 0, none⟩) (Nat.le_refl _) (.bool false)).setCell (p := ⟨w.heap.size, 1, none⟩) (Nat.le_refl _) (.slice none 0 0)).setCell (p := ⟨w.heap.size, 2, none⟩) (Nat.le_refl _) (.slice none 0 0)).alloc (by simp only [size_setCell]; omega) (.cells #[.bool neg, .slice p (limbs n).length c', .slice none 0 0] 26))
        clear hrow4 hbw4 hb4 HN
        go_wp2_with fail
        refine bodyPost_ret (results_row_tmp rfl _ _ w.heap.size 26 _ (0, 0) _ rfl HRF.out Tryz.underlying26 rfl (by kernel_rfl)) rfl ?_
        exact ⟨HBF.out, .inr ⟨HNO.out, rfl⟩⟩
    · have hrow2 := row_on hrow1' hb2
      have hbw2 := hb1'.trans (hb2.mono hb1'.size)
      have hlt2 : w.heap.size < w2.heap.size := Nat.lt_of_lt_of_le hlo hb2.size
      have hg2 : g < w2.heap.size := Nat.lt_of_lt_of_le hg hb2.size
      have hg3 : g < w2.heap.size + 1 := by omega
      have k1 : w2.cell? ⟨g, 1, none⟩ = some (Value.string ⟨(b1).toArray⟩) := by rw [hb2.cell hg]; exact hc1
      clear HP hrow1' hb1' hc0 hc1
      have HNO := Lib.hid (show ¬ ∃ r, ratFits s r from fun ⟨r, hr⟩ => hbig ⟨r.neg, r.num, (HONE.out r hr).2.2⟩)
      have hb3 : Below w2.heap.size w2 ((w2.alloc (.cells #[.bool false, .slice none 0 0] 24)).alloc (.cells #[.int .i64 1] 3)) := ((Below.refl _ _).alloc (Nat.le_refl _) _).alloc (by simp) _
      have hrowB := row_on (row_new w2 #[.bool false, .slice none 0 0] 24) ((Below.refl _ _).alloc (Nat.le_refl _) (.cells #[.int .i64 1] 3))
      have hrow3 := row_on hrow2 hb3
      have hbw3 := hbw2.trans (hb3.mono hbw2.size)
      have hsz3 : ((w2.alloc (.cells #[.bool false, .slice none 0 0] 24)).alloc (.cells #[.int .i64 1] 3)).heap.size = w2.heap.size + 2 := by simp
      have HN := Lib.hid (sParseNat_any b1 ((w2.alloc (.cells #[.bool false, .slice none 0 0] 24)).alloc (.cells #[.int .i64 1] 3)) (by omega))
      clear hb2 hrow2 hbw2 hbig hb3
      go_wp2_with fail
      refine HN.out.mono ?_
      rintro e w4 ⟨hb4, ⟨hps, vd, rfl, hvd⟩ | ⟨hps, rfl⟩⟩
      · have hrow4 := row_on hrow3 hb4
        have hrowB4 := row_on hrowB hb4
        have hbw4 := hbw3.trans (hb4.mono hbw3.size)
        have hsz4 := hb4.size
        rw [hsz3] at hsz4
        obtain ⟨pd, cd, rfl, hpd, hcd⟩ := hvd.1.form
        have q0 := row_cell hrowB4 0
        have q1 := row_cell hrowB4 1
        simp only [List.getElem?_toArray, List.getElem?_cons_zero, List.getElem?_cons_succ] at q0 q1
        clear hrowB hrow3 hbw3 hps hrowB4
        have e0 := row_cell hrow4 0
        have e1 := row_cell hrow4 1
        have e2 := row_cell hrow4 2
        have f0 := row_frozen hrow4 0
        have f1 := row_frozen hrow4 1
        have f2 := row_frozen hrow4 2
        simp only [List.getElem?_toArray, List.getElem?_cons_zero, List.getElem?_cons_succ] at e0 e1 e2
        have g4 : w.heap.size < w4.heap.size := by omega
        have HRF := Lib.hid (row_on (row_set (row_set (row_set hrow4 0 (.bool false)) 1 (.slice none 0 0)) 2 (.slice none 0 0)) ((Below.refl _ _).alloc (Nat.le_refl _) (.cells #[.bool false, .slice none 0 0, .slice pd (limbs (num b1)).length cd] 26)))
        have HBF := Lib.hid ((((hbw4.setCell (p := ⟨w.heap.size, 0, none⟩) (Nat.le_refl _) (.bool false)).setCell (p := ⟨w.heap.size, 1, none⟩) (Nat.le_refl _) (.slice none 0 0)).setCell (p := ⟨w.heap.size, 2, none⟩) (Nat.le_refl _) (.slice none 0 0)).alloc (by simp only [size_setCell]; omega) (.cells #[.bool false, .slice none 0 0, .slice pd (limbs (num b1)).length cd] 26))
        clear hrow4 hbw4 hb4 HN
        go_wp2_with fail
        refine bodyPost_ret (results_row_tmp rfl _ _ w.heap.size 26 _ (0, 0) _ rfl HRF.out Tryz.underlying26 rfl (by kernel_rfl)) rfl ?_
        exact ⟨HBF.out, .inr ⟨HNO.out, rfl⟩⟩
      · have hrow4 := row_on hrow3 hb4
        have hrowB4 := row_on hrowB hb4
        have hbw4 := hbw3.trans (hb4.mono hbw3.size)
        have hsz4 := hb4.size
        rw [hsz3] at hsz4
        have q0 := row_cell hrowB4 0
        have q1 := row_cell hrowB4 1
        simp only [List.getElem?_toArray, List.getElem?_cons_zero, List.getElem?_cons_succ] at q0 q1
        clear hrowB hrow3 hbw3 hps hrowB4
        have e0 := row_cell hrow4 0
        have e1 := row_cell hrow4 1
        have e2 := row_cell hrow4 2
        have f0 := row_frozen hrow4 0
        have f1 := row_frozen hrow4 1
        have f2 := row_frozen hrow4 2
        simp only [List.getElem?_toArray, List.getElem?_cons_zero, List.getElem?_cons_succ] at e0 e1 e2
        have g4 : w.heap.size < w4.heap.size := by omega
        have HRF := Lib.hid (row_on (row_set (row_set (row_set hrow4 0 (.bool false)) 1 (.slice none 0 0)) 2 (.slice none 0 0)) ((Below.refl _ _).alloc (Nat.le_refl _) (.cells #[.bool false, .slice none 0 0, .slice none 0 0] 26)))
        have HBF := Lib.hid ((((hbw4.setCell (p := ⟨w.heap.size, 0, none⟩) (Nat.le_refl _) (.bool false)).setCell (p := ⟨w.heap.size, 1, none⟩) (Nat.le_refl _) (.slice none 0 0)).setCell (p := ⟨w.heap.size, 2, none⟩) (Nat.le_refl _) (.slice none 0 0)).alloc (by simp only [size_setCell]; omega) (.cells #[.bool false, .slice none 0 0, .slice none 0 0] 26))
        clear hrow4 hbw4 hb4 HN
        go_wp2_with fail
        refine bodyPost_ret (results_row_tmp rfl _ _ w.heap.size 26 _ (0, 0) _ rfl HRF.out Tryz.underlying26 rfl (by kernel_rfl)) rfl ?_
        exact ⟨HBF.out, .inr ⟨HNO.out, rfl⟩⟩
end Go.Proofs.YtnpfmmdekjjnjaaGreatDoor
