/- Contracts: reading a point: impl.ParsePoint. -/
import Derived.Test.YtnpfmmdekjjnjaaGreatDoorPtPlain
namespace Go.Proofs.YtnpfmmdekjjnjaaGreatDoor
open Go Go.RowKit Pl

set_option maxHeartbeats 1000000 in
set_option maxRecDepth 100000 in
theorem ParsePoint_any (s : List UInt8) (B : Nat) (w : World) (hw : Std B w) (hl : s.length ≤ 2000000) :
    Calls Tryz.prog 35 #[(Value.string ⟨(s).toArray⟩)] w (ParsePtPost s w) := by
  have hb1 : Below w.heap.size w (w.alloc (.cells #[.bool false, .slice none 0 0, .slice none 0 0, .bool false, .slice none 0 0, .slice none 0 0] 28)) := (Below.refl _ _).alloc (Nat.le_refl _) _
  have hrow1 := row_new w #[.bool false, .slice none 0 0, .slice none 0 0, .bool false, .slice none 0 0, .slice none 0 0] 28
  have hsz : w.heap.size < (w.alloc (.cells #[.bool false, .slice none 0 0, .slice none 0 0, .bool false, .slice none 0 0, .slice none 0 0] 28)).heap.size := by simp
  have hw1 := hw.on hb1
  obtain ⟨m, hm⟩ := hw1.1
  have HCUT := Lib.hid (Tryz.strings_Cut ⟨s.toArray⟩ ⟨#[44]⟩ m (w.alloc (.cells #[.bool false, .slice none 0 0, .slice none 0 0, .bool false, .slice none 0 0, .slice none 0 0] 28)) (by rw [size_str]; omega) hm)
  have HW1 := Lib.hid hw1
  obtain ⟨a, b, has, hcut, hlen, HIS⟩ : ∃ a b has, Lib.cut s [44] = (a, b, has) ∧ a.length + b.length ≤ s.length ∧ Hid ((has = true → ∀ p, ptFits s p ↔ ratFits a p.x ∧ ratFits b p.y) ∧ (has = false → ∀ p, ¬ ptFits s p)) := by
    rcases cut_cases 44 s with ⟨hno, hcut⟩ | ⟨a, b, hno, rfl, hcut⟩
    · exact ⟨s, [], false, hcut, by simp, fun h => absurd h (by decide), fun _ => ptFits_no hno⟩
    · exact ⟨a, b, true, hcut, by rw [List.length_append, List.length_cons]; omega, fun _ p => ptFits_iff hno, fun h => absurd h (by decide)⟩
  clear hw hw1 hm
  go_enter Tryz.func35, Tryz.ntmps35
  go_wp2_with fail
  refine HCUT.out.mono ?_
  rintro e w1 ⟨rfl, k1, rfl⟩
  rw [hcut]
  have HP := Lib.hid (ParseRat_any a B _ (HW1.out.on (below_drewN _ k1)) (by omega))
  go_wp2_with fail
  refine HP.out.mono ?_
  rintro e w2 hback
  obtain ⟨ok1, neg1, p1, n1, c1, p2, n2, c2, rfl, hb2, hyes1, hno1⟩ := hback.back
  have hrow2 := row_on (row_on hrow1 (below_drewN _ k1)) hb2
  have hbw2 := (hb1.trans ((below_drewN _ k1).mono hb1.size)).trans (hb2.mono hb1.size)
  have hlo : w.heap.size < ((w.alloc (.cells #[.bool false, .slice none 0 0, .slice none 0 0, .bool false, .slice none 0 0, .slice none 0 0] 28)).drewN k1).heap.size := hsz
  have hw2 := (HW1.out.on (below_drewN _ k1)).on hb2
  have hlow2 := hb2.size
  clear hback HP HW1 hb1 hrow1 hsz hb2 HCUT
  generalize (w.alloc (.cells #[.bool false, .slice none 0 0, .slice none 0 0, .bool false, .slice none 0 0, .slice none 0 0] 28)).drewN k1 = W1 at *
  have hb3 : Below w2.heap.size w2 (w2.alloc (.cells #[.bool neg1, .slice p1 n1 c1, .slice p2 n2 c2] 26)) := (Below.refl _ _).alloc (Nat.le_refl _) _
  have HQ := Lib.hid (ParseRat_any b B _ (hw2.on hb3) (by omega))
  go_wp2_with fail
  refine HQ.out.mono ?_
  rintro e w4 hback
  obtain ⟨ok2, neg2, q1, m1, d1, q2, m2, d2, rfl, hb4, hyes2, hno2⟩ := hback.back
  have hrow4 := row_on (row_on hrow2 hb3) hb4
  have hrowA := row_on (row_new w2 #[.bool neg1, .slice p1 n1 c1, .slice p2 n2 c2] 26) hb4
  have hbw3 := hbw2.trans (hb3.mono hbw2.size)
  have hbw4 := hbw3.trans (hb4.mono hbw3.size)
  have hsz3 : (w2.alloc (.cells #[.bool neg1, .slice p1 n1 c1, .slice p2 n2 c2] 26)).heap.size = w2.heap.size + 1 := by simp
  have hlow4 := hb4.size
  rw [hsz3] at hlow4 hyes2
  have q0 := row_cell hrowA 0
  have q1' := row_cell hrowA 1
  have q2' := row_cell hrowA 2
  have e0 := row_cell hrow4 0
  have f0 := row_frozen hrow4 0
  have e1 := row_cell hrow4 1
  have f1 := row_frozen hrow4 1
  have e2 := row_cell hrow4 2
  have f2 := row_frozen hrow4 2
  have e3 := row_cell hrow4 3
  have f3 := row_frozen hrow4 3
  have e4 := row_cell hrow4 4
  have f4 := row_frozen hrow4 4
  have e5 := row_cell hrow4 5
  have f5 := row_frozen hrow4 5
  simp only [List.getElem?_toArray, List.getElem?_cons_zero, List.getElem?_cons_succ] at q0 q1' q2' e0 e1 e2 e3 e4 e5
  have hg1 : w.heap.size < w4.heap.size := by omega
  have hg2 : w2.heap.size < w4.heap.size := by omega
  have HRZ := Lib.hid (row_on (row_set (row_set (row_set (row_set (row_set (row_set hrow4 0 (.bool false)) 1 (.slice none 0 0)) 2 (.slice none 0 0)) 3 (.bool false)) 4 (.slice none 0 0)) 5 (.slice none 0 0)) ((Below.refl _ _).alloc (Nat.le_refl _) (.cells #[.bool neg2, .slice q1 m1 d1, .slice q2 m2 d2] 26)))
  have HBZ := Lib.hid (((((((hbw4.setCell (p := ⟨w.heap.size, 0, none⟩) (Nat.le_refl _) (.bool false)).setCell (p := ⟨w.heap.size, 1, none⟩) (Nat.le_refl _) (.slice none 0 0)).setCell (p := ⟨w.heap.size, 2, none⟩) (Nat.le_refl _) (.slice none 0 0)).setCell (p := ⟨w.heap.size, 3, none⟩) (Nat.le_refl _) (.bool false)).setCell (p := ⟨w.heap.size, 4, none⟩) (Nat.le_refl _) (.slice none 0 0)).setCell (p := ⟨w.heap.size, 5, none⟩) (Nat.le_refl _) (.slice none 0 0)).alloc (by simp only [size_setCell]; omega) (.cells #[.bool neg2, .slice q1 m1 d1, .slice q2 m2 d2] 26))
  have HRV := Lib.hid (row_on (row_set (row_set (row_set (row_set (row_set (row_set hrow4 0 (.bool neg1)) 1 (.slice p1 n1 c1)) 2 (.slice p2 n2 c2)) 3 (.bool neg2)) 4 (.slice q1 m1 d1)) 5 (.slice q2 m2 d2)) ((Below.refl _ _).alloc (Nat.le_refl _) (.cells #[.bool neg2, .slice q1 m1 d1, .slice q2 m2 d2] 26)))
  have HBV := Lib.hid (((((((hbw4.setCell (p := ⟨w.heap.size, 0, none⟩) (Nat.le_refl _) (.bool neg1)).setCell (p := ⟨w.heap.size, 1, none⟩) (Nat.le_refl _) (.slice p1 n1 c1)).setCell (p := ⟨w.heap.size, 2, none⟩) (Nat.le_refl _) (.slice p2 n2 c2)).setCell (p := ⟨w.heap.size, 3, none⟩) (Nat.le_refl _) (.bool neg2)).setCell (p := ⟨w.heap.size, 4, none⟩) (Nat.le_refl _) (.slice q1 m1 d1)).setCell (p := ⟨w.heap.size, 5, none⟩) (Nat.le_refl _) (.slice q2 m2 d2)).alloc (by simp only [size_setCell]; omega) (.cells #[.bool neg2, .slice q1 m1 d1, .slice q2 m2 d2] 26))
  have HY1 := Lib.hid hyes1
  have HY2 := Lib.hid hyes2
  have HN1 := Lib.hid hno1
  have HN2 := Lib.hid hno2
  have HB3 := Lib.hid hb3
  have HB4 := Lib.hid hb4
  clear hrow4 hrowA hbw3 hbw4 hyes1 hyes2 hno1 hno2 hb3 hb4 hrow2 hbw2 hback HQ
  by_cases hall : has = true ∧ ok1 = true ∧ ok2 = true
  · obtain ⟨rfl, rfl, rfl⟩ := hall
    clear HRZ HBZ
    go_wp2_with fail
    refine bodyPost_ret (results_row_tmp rfl _ _ w.heap.size 28 _ (0, 0) _ rfl HRV.out Tryz.underlying28 rfl (by kernel_rfl)) rfl ?_
    obtain ⟨r1, hr1, rfl, hf1⟩ := HY1.out (by trivial)
    obtain ⟨r2, hr2, rfl, hf2⟩ := HY2.out (by trivial)
    have hA := ((((((((hf1.below HB3.out).below HB4.out).set (p := ⟨w.heap.size, 0, none⟩) hlo (.bool r1.neg)).set (p := ⟨w.heap.size, 1, none⟩) hlo (.slice p1 n1 c1)).set (p := ⟨w.heap.size, 2, none⟩) hlo (.slice p2 n2 c2)).set (p := ⟨w.heap.size, 3, none⟩) hlo (.bool r2.neg)).set (p := ⟨w.heap.size, 4, none⟩) hlo (.slice q1 m1 d1)).set (p := ⟨w.heap.size, 5, none⟩) hlo (.slice q2 m2 d2)).below ((Below.refl _ _).alloc (Nat.le_refl _) (.cells #[.bool r2.neg, .slice q1 m1 d1, .slice q2 m2 d2] 26))
    have hB := ((((((hf2.set (p := ⟨w.heap.size, 0, none⟩) (by show w.heap.size < w2.heap.size + 1; omega) (.bool r1.neg)).set (p := ⟨w.heap.size, 1, none⟩) (by show w.heap.size < w2.heap.size + 1; omega) (.slice p1 n1 c1)).set (p := ⟨w.heap.size, 2, none⟩) (by show w.heap.size < w2.heap.size + 1; omega) (.slice p2 n2 c2)).set (p := ⟨w.heap.size, 3, none⟩) (by show w.heap.size < w2.heap.size + 1; omega) (.bool r2.neg)).set (p := ⟨w.heap.size, 4, none⟩) (by show w.heap.size < w2.heap.size + 1; omega) (.slice q1 m1 d1)).set (p := ⟨w.heap.size, 5, none⟩) (by show w.heap.size < w2.heap.size + 1; omega) (.slice q2 m2 d2)).below ((Below.refl _ _).alloc (Nat.le_refl _) (.cells #[.bool r2.neg, .slice q1 m1 d1, .slice q2 m2 d2] 26))
    exact ⟨HBV.out, .inl ⟨⟨r1, r2⟩, _, (HIS.out.1 (by trivial) _).2 ⟨hr1, hr2⟩, rfl, w2.heap.size, _, _, _, _, rfl, by omega, by simp; omega, hA.wide (by omega) (Nat.le_refl _), hB.wide (by omega) (by simp)⟩⟩
  · have key : ∀ P : Prop, (has = false → P) → (has = true → ok1 = false → P) → (has = true → ok1 = true → ok2 = false → P) → P := by
      intro P h1 h2 h3
      cases has
      · exact h1 rfl
      · cases ok1
        · exact h2 rfl rfl
        · cases ok2
          · exact h3 rfl rfl rfl
          · exact absurd ⟨rfl, rfl, rfl⟩ hall
    clear HRV HBV hall
    apply key
    · rintro rfl
      go_wp2_with fail
      refine bodyPost_ret (results_row_tmp rfl _ _ w.heap.size 28 _ (0, 0) _ rfl HRZ.out Tryz.underlying28 rfl (by kernel_rfl)) rfl ?_
      exact ⟨HBZ.out, .inr ⟨fun ⟨p, hp⟩ => HIS.out.2 (by trivial) p hp, rfl⟩⟩
    · rintro rfl rfl
      go_wp2_with fail
      refine bodyPost_ret (results_row_tmp rfl _ _ w.heap.size 28 _ (0, 0) _ rfl HRZ.out Tryz.underlying28 rfl (by kernel_rfl)) rfl ?_
      exact ⟨HBZ.out, .inr ⟨fun ⟨p, hp⟩ => HN1.out (by trivial) ⟨p.x, ((HIS.out.1 (by trivial) p).1 hp).1⟩, rfl⟩⟩
    · rintro rfl rfl rfl
      go_wp2_with fail
      refine bodyPost_ret (results_row_tmp rfl _ _ w.heap.size 28 _ (0, 0) _ rfl HRZ.out Tryz.underlying28 rfl (by kernel_rfl)) rfl ?_
      exact ⟨HBZ.out, .inr ⟨fun ⟨p, hp⟩ => HN2.out (by trivial) ⟨p.y, ((HIS.out.1 (by trivial) p).1 hp).2⟩, rfl⟩⟩
end Go.Proofs.YtnpfmmdekjjnjaaGreatDoor
