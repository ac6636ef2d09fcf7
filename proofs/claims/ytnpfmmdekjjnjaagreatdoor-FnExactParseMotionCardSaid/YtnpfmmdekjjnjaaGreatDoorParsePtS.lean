/- Contracts: reading a point: spec.ParsePoint. PRINTED BY wip/tools/mkpts.py. -/
import Derived.Test.YtnpfmmdekjjnjaaGreatDoorParsePt
namespace Go.Proofs.YtnpfmmdekjjnjaaGreatDoor
open Go Go.RowKit Pl

theorem split_two {c : UInt8} {s a b : List UInt8} (h : split1 c s = [a, b]) : s = a ++ c :: b ∧ c ∉ a ∧ c ∉ b := by
  rcases cut_cases c s with ⟨h1, _⟩ | ⟨x, y, h1, rfl, _⟩
  · rw [split1_none h1] at h
    injection h with _ h
    cases h
  · rw [split1_hit h1] at h
    injection h with h2 h3
    subst h2
    rcases cut_cases c y with ⟨h4, _⟩ | ⟨u, v, h4, rfl, _⟩
    · rw [split1_none h4] at h3
      injection h3 with h5 _
      subst h5
      exact ⟨rfl, h1, h4⟩
    · rw [split1_hit h4] at h3
      injection h3 with _ h5
      exact absurd h5 (split1_ne _ _)

set_option maxHeartbeats 1000000 in
set_option maxRecDepth 100000 in
theorem sParsePoint_any (s : List UInt8) (w : World) (hl : s.length ≤ 2000000) :
    Calls Tryz.prog 31 #[(Value.string ⟨(s).toArray⟩)] w (ParsePtPost s w) := by
  have hb1 : Below w.heap.size w (w.alloc (.cells #[.bool false, .slice none 0 0, .slice none 0 0, .bool false, .slice none 0 0, .slice none 0 0] 28)) := (Below.refl _ _).alloc (Nat.le_refl _) _
  have hrow1 := row_new w #[.bool false, .slice none 0 0, .slice none 0 0, .bool false, .slice none 0 0, .slice none 0 0] 28
  have hsz : w.heap.size < (w.alloc (.cells #[.bool false, .slice none 0 0, .slice none 0 0, .bool false, .slice none 0 0, .slice none 0 0] 28)).heap.size := by simp
  have HSP := Lib.hid (SplitAny_any s 44 (w.alloc (.cells #[.bool false, .slice none 0 0, .slice none 0 0, .bool false, .slice none 0 0, .slice none 0 0] 28)) (by omega))
  by_cases h2 : ∃ a b, split1 44 s = [a, b]
  · obtain ⟨a, b, hspl⟩ := h2
    obtain ⟨hs, hno, _⟩ := split_two hspl
    have HIS := Lib.hid (fun p => hs ▸ ptFits_iff (a := a) (b := b) hno (p := p))
    have hlen : a.length + b.length ≤ s.length := by rw [hs, List.length_append, List.length_cons]; omega
    have HSPL := Lib.hid hspl
    clear hs hspl
    go_enter Tryz.func31, Tryz.ntmps31
    go_wp2_with fail
    refine HSP.out.mono ?_
    rintro e w1 ⟨v1, rfl, hown, hbs⟩
    rw [HSPL.out] at hown
    obtain ⟨g, c, rfl, hc0, hg, _⟩ := hown.cell (i := 0) (by simp)
    obtain ⟨g', cg, he, hc1, _, _⟩ := hown.cell (i := 1) (by simp)
    injection he with he _ _
    injection he with he
    injection he with he _ _
    subst he
    rw [show [a, b].getD 0 [] = a from rfl] at hc0
    rw [show [a, b].getD 1 [] = b from rfl] at hc1
    have hrow1' := row_on hrow1 hbs
    have hb1' := hb1.trans (hbs.mono hb1.size)
    have hlo : w.heap.size < w1.heap.size := Nat.lt_of_lt_of_le hsz hbs.size
    have HP := Lib.hid (sParseRat_any a w1 (by omega))
    clear hown HSP hb1 hrow1 hsz hbs
    go_wp2_with fail
    refine HP.out.mono ?_
    rintro e w2 hback
    obtain ⟨ok1, neg1, p1, n1, c1, p2, n2, c2, rfl, hb2, hyes1, hno1⟩ := hback.back
    have hrow2 := row_on hrow1' hb2
    have hbw2 := hb1'.trans (hb2.mono hb1'.size)
    have hlow2 := hb2.size
    have hg2' : g < w2.heap.size := Nat.lt_of_lt_of_le hg hb2.size
    have k1 : w2.cell? ⟨g, 1, none⟩ = some (Value.string ⟨(b).toArray⟩) := by rw [hb2.cell hg]; exact hc1
    clear hback HP hrow1' hb1' hb2 hc0 hc1
    have hb3 : Below w2.heap.size w2 (w2.alloc (.cells #[.bool neg1, .slice p1 n1 c1, .slice p2 n2 c2] 26)) := (Below.refl _ _).alloc (Nat.le_refl _) _
    have HQ := Lib.hid (sParseRat_any b (w2.alloc (.cells #[.bool neg1, .slice p1 n1 c1, .slice p2 n2 c2] 26)) (by omega))
    go_wp2_with fail
    refine HQ.out.mono ?_
    rintro e w4 hback
    obtain ⟨ok2, neg2, q1, m1, d1, q2, m2, d2, rfl, hb4, hyes2, hno2⟩ := hback.back
    have hrow4 := row_on (row_on hrow2 hb3) hb4
    have hrowA := row_on (row_new w2 #[.bool neg1, .slice p1 n1 c1, .slice p2 n2 c2] 26) hb4
    have hbw3 := hbw2.trans (hb3.mono hbw2.size)
    have hbw4 := hbw3.trans (hb4.mono hbw3.size)
    have hsz3 : (w2.alloc (.cells #[.bool neg1, .slice p1 n1 c1, .slice p2 n2 c2] 26)).heap.size = w2.heap.size + 1 := by simp
    have hlow4 := hb4.size
    rw [hsz3] at hlow4 hyes2
    have q0 := row_cell hrowA 0
    have q1' := row_cell hrowA 1
    have q2' := row_cell hrowA 2
    have e0 := row_cell hrow4 0
    have f0 := row_frozen hrow4 0
    have e1 := row_cell hrow4 1
    have f1 := row_frozen hrow4 1
    have e2 := row_cell hrow4 2
    have f2 := row_frozen hrow4 2
    have e3 := row_cell hrow4 3
    have f3 := row_frozen hrow4 3
    have e4 := row_cell hrow4 4
    have f4 := row_frozen hrow4 4
    have e5 := row_cell hrow4 5
    have f5 := row_frozen hrow4 5
    simp only [List.getElem?_toArray, List.getElem?_cons_zero, List.getElem?_cons_succ] at q0 q1' q2' e0 e1 e2 e3 e4 e5
    have hg1 : w.heap.size < w4.heap.size := by omega
    have hg2 : w2.heap.size < w4.heap.size := by omega
    have HRZ := Lib.hid (row_on (row_set (row_set (row_set (row_set (row_set (row_set hrow4 0 (.bool false)) 1 (.slice none 0 0)) 2 (.slice none 0 0)) 3 (.bool false)) 4 (.slice none 0 0)) 5 (.slice none 0 0)) ((Below.refl _ _).alloc (Nat.le_refl _) (.cells #[.bool neg2, .slice q1 m1 d1, .slice q2 m2 d2] 26)))
    have HBZ := Lib.hid (((((((hbw4.setCell (p := ⟨w.heap.size, 0, none⟩) (Nat.le_refl _) (.bool false)).setCell (p := ⟨w.heap.size, 1, none⟩) (Nat.le_refl _) (.slice none 0 0)).setCell (p := ⟨w.heap.size, 2, none⟩) (Nat.le_refl _) (.slice none 0 0)).setCell (p := ⟨w.heap.size, 3, none⟩) (Nat.le_refl _) (.bool false)).setCell (p := ⟨w.heap.size, 4, none⟩) (Nat.le_refl _) (.slice none 0 0)).setCell (p := ⟨w.heap.size, 5, none⟩) (Nat.le_refl _) (.slice none 0 0)).alloc (by simp only [size_setCell]; omega) (.cells #[.bool neg2, .slice q1 m1 d1, .slice q2 m2 d2] 26))
    have HRV := Lib.hid (row_on (row_set (row_set (row_set (row_set (row_set (row_set hrow4 0 (.bool neg1)) 1 (.slice p1 n1 c1)) 2 (.slice p2 n2 c2)) 3 (.bool neg2)) 4 (.slice q1 m1 d1)) 5 (.slice q2 m2 d2)) ((Below.refl _ _).alloc (Nat.le_refl _) (.cells #[.bool neg2, .slice q1 m1 d1, .slice q2 m2 d2] 26)))
    have HBV := Lib.hid (((((((hbw4.setCell (p := ⟨w.heap.size, 0, none⟩) (Nat.le_refl _) (.bool neg1)).setCell (p := ⟨w.heap.size, 1, none⟩) (Nat.le_refl _) (.slice p1 n1 c1)).setCell (p := ⟨w.heap.size, 2, none⟩) (Nat.le_refl _) (.slice p2 n2 c2)).setCell (p := ⟨w.heap.size, 3, none⟩) (Nat.le_refl _) (.bool neg2)).setCell (p := ⟨w.heap.size, 4, none⟩) (Nat.le_refl _) (.slice q1 m1 d1)).setCell (p := ⟨w.heap.size, 5, none⟩) (Nat.le_refl _) (.slice q2 m2 d2)).alloc (by simp only [size_setCell]; omega) (.cells #[.bool neg2, .slice q1 m1 d1, .slice q2 m2 d2] 26))
    have HY1 := Lib.hid hyes1
    have HY2 := Lib.hid hyes2
    have HN1 := Lib.hid hno1
    have HN2 := Lib.hid hno2
    have HB3 := Lib.hid hb3
    have HB4 := Lib.hid hb4
    clear hrow4 hrowA hbw3 hbw4 hyes1 hyes2 hno1 hno2 hb3 hb4 hrow2 hbw2 hback HQ
    by_cases hall : ok1 = true ∧ ok2 = true
    · obtain ⟨rfl, rfl⟩ := hall
      clear HRZ HBZ
      go_wp2_with fail
      refine bodyPost_ret (results_row_tmp rfl _ _ w.heap.size 28 _ (0, 0) _ rfl HRV.out Tryz.underlying28 rfl (by kernel_rfl)) rfl ?_
      obtain ⟨r1, hr1, rfl, hf1⟩ := HY1.out (by trivial)
      obtain ⟨r2, hr2, rfl, hf2⟩ := HY2.out (by trivial)
      have hA := ((((((((hf1.below HB3.out).below HB4.out).set (p := ⟨w.heap.size, 0, none⟩) hlo (.bool r1.neg)).set (p := ⟨w.heap.size, 1, none⟩) hlo (.slice p1 n1 c1)).set (p := ⟨w.heap.size, 2, none⟩) hlo (.slice p2 n2 c2)).set (p := ⟨w.heap.size, 3, none⟩) hlo (.bool r2.neg)).set (p := ⟨w.heap.size, 4, none⟩) hlo (.slice q1 m1 d1)).set (p := ⟨w.heap.size, 5, none⟩) hlo (.slice q2 m2 d2)).below ((Below.refl _ _).alloc (Nat.le_refl _) (.cells #[.bool r2.neg, .slice q1 m1 d1, .slice q2 m2 d2] 26))
      have hB := ((((((hf2.set (p := ⟨w.heap.size, 0, none⟩) (by show w.heap.size < w2.heap.size + 1; omega) (.bool r1.neg)).set (p := ⟨w.heap.size, 1, none⟩) (by show w.heap.size < w2.heap.size + 1; omega) (.slice p1 n1 c1)).set (p := ⟨w.heap.size, 2, none⟩) (by show w.heap.size < w2.heap.size + 1; omega) (.slice p2 n2 c2)).set (p := ⟨w.heap.size, 3, none⟩) (by show w.heap.size < w2.heap.size + 1; omega) (.bool r2.neg)).set (p := ⟨w.heap.size, 4, none⟩) (by show w.heap.size < w2.heap.size + 1; omega) (.slice q1 m1 d1)).set (p := ⟨w.heap.size, 5, none⟩) (by show w.heap.size < w2.heap.size + 1; omega) (.slice q2 m2 d2)).below ((Below.refl _ _).alloc (Nat.le_refl _) (.cells #[.bool r2.neg, .slice q1 m1 d1, .slice q2 m2 d2] 26))
      exact ⟨HBV.out, .inl ⟨⟨r1, r2⟩, _, (HIS.out _).2 ⟨hr1, hr2⟩, rfl, w2.heap.size, _, _, _, _, rfl, by omega, by simp; omega, hA.wide (by omega) (Nat.le_refl _), hB.wide (by omega) (by simp)⟩⟩
    · have key : ∀ P : Prop, (ok1 = false → P) → (ok1 = true → ok2 = false → P) → P := by
        intro P h2 h3
        cases ok1
        · exact h2 rfl
        · cases ok2
          · exact h3 rfl rfl
          · exact absurd ⟨rfl, rfl⟩ hall
      clear HRV HBV hall
      apply key
      · rintro rfl
        go_wp2_with fail
        refine bodyPost_ret (results_row_tmp rfl _ _ w.heap.size 28 _ (0, 0) _ rfl HRZ.out Tryz.underlying28 rfl (by kernel_rfl)) rfl ?_
        exact ⟨HBZ.out, .inr ⟨fun ⟨p, hp⟩ => HN1.out (by trivial) ⟨p.x, ((HIS.out p).1 hp).1⟩, rfl⟩⟩
      · rintro rfl rfl
        go_wp2_with fail
        refine bodyPost_ret (results_row_tmp rfl _ _ w.heap.size 28 _ (0, 0) _ rfl HRZ.out Tryz.underlying28 rfl (by kernel_rfl)) rfl ?_
        exact ⟨HBZ.out, .inr ⟨fun ⟨p, hp⟩ => HN2.out (by trivial) ⟨p.y, ((HIS.out p).1 hp).2⟩, rfl⟩⟩
  · have HNO := Lib.hid (show ¬ ∃ p, ptFits s p from fun ⟨p, hp⟩ => h2 ⟨fmtRat p.x, fmtRat p.y, by
      rw [← hp.2]
      show split1 44 (fmtRat p.x ++ 44 :: fmtRat p.y) = _
      rw [split1_hit (fmtRat_no (by decide) (by decide) (by decide)), split1_none (fmtRat_no (by decide) (by decide) (by decide))]⟩)
    have hne : (split1 44 s).length ≠ 2 := by
      intro h
      match hs : split1 44 s, h with
      | [a, b], _ => exact h2 ⟨a, b, hs⟩
    clear h2
    go_enter Tryz.func31, Tryz.ntmps31
    go_wp2_with fail
    refine HSP.out.mono ?_
    rintro e w1 ⟨v1, rfl, hown, hbs⟩
    obtain ⟨pv, cv, rfl, h1, h2⟩ := hown.form
    generalize (split1 44 s).length = L at *
    have hL : (((L : Int) != 2)) = true := by rw [bne_iff_ne]; omega
    have hrow4 := row_on hrow1 hbs
    have hbw4 := hb1.trans (hbs.mono hb1.size)
    have e0 := row_cell hrow4 0
    have f0 := row_frozen hrow4 0
    have e1 := row_cell hrow4 1
    have f1 := row_frozen hrow4 1
    have e2 := row_cell hrow4 2
    have f2 := row_frozen hrow4 2
    have e3 := row_cell hrow4 3
    have f3 := row_frozen hrow4 3
    have e4 := row_cell hrow4 4
    have f4 := row_frozen hrow4 4
    have e5 := row_cell hrow4 5
    have f5 := row_frozen hrow4 5
    simp only [List.getElem?_toArray, List.getElem?_cons_zero, List.getElem?_cons_succ] at e0 e1 e2 e3 e4 e5
    have HRZ := Lib.hid (row_set (row_set (row_set (row_set (row_set (row_set hrow4 0 (.bool false)) 1 (.slice none 0 0)) 2 (.slice none 0 0)) 3 (.bool false)) 4 (.slice none 0 0)) 5 (.slice none 0 0))
    have HBZ := Lib.hid ((((((hbw4.setCell (p := ⟨w.heap.size, 0, none⟩) (Nat.le_refl _) (.bool false)).setCell (p := ⟨w.heap.size, 1, none⟩) (Nat.le_refl _) (.slice none 0 0)).setCell (p := ⟨w.heap.size, 2, none⟩) (Nat.le_refl _) (.slice none 0 0)).setCell (p := ⟨w.heap.size, 3, none⟩) (Nat.le_refl _) (.bool false)).setCell (p := ⟨w.heap.size, 4, none⟩) (Nat.le_refl _) (.slice none 0 0)).setCell (p := ⟨w.heap.size, 5, none⟩) (Nat.le_refl _) (.slice none 0 0))
    clear hrow4 hbw4 hrow1 hb1 hbs HSP hown hsz
    go_wp2_with fail
    refine bodyPost_ret (results_row_tmp rfl _ _ w.heap.size 28 _ (0, 0) _ rfl HRZ.out Tryz.underlying28 rfl (by kernel_rfl)) rfl ?_
    exact ⟨HBZ.out, .inr ⟨HNO.out, rfl⟩⟩
end Go.Proofs.YtnpfmmdekjjnjaaGreatDoor
