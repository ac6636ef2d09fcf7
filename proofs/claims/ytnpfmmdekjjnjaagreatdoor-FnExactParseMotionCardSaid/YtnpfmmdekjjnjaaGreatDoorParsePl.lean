/- Contracts: reading a placement and a step: impl.ParsePlacement, impl.ParseStep. PRINTED BY wip/tools/mkwords.py. -/
import Derived.Test.YtnpfmmdekjjnjaaGreatDoorWordIdx
namespace Go.Proofs.YtnpfmmdekjjnjaaGreatDoor
open Go Go.RowKit Pl

set_option maxHeartbeats 1000000 in
set_option maxRecDepth 100000 in
theorem ParsePlacement_any (s : List UInt8) (B : Nat) (w : World) (hw : Std B w) (hl : s.length ≤ 2000000) :
    Calls Tryz.prog 8 #[(Value.string ⟨(s).toArray⟩)] w (HeadPost plWords (0) s w) := by
  have hb1 : Below w.heap.size w (w.alloc (.cells #[.int .i64 0, .bool false, .slice none 0 0, .slice none 0 0, .bool false, .slice none 0 0, .slice none 0 0] 30)) := (Below.refl _ _).alloc (Nat.le_refl _) _
  have hrow1 := row_new w #[.int .i64 0, .bool false, .slice none 0 0, .slice none 0 0, .bool false, .slice none 0 0, .slice none 0 0] 30
  have hsz : w.heap.size < (w.alloc (.cells #[.int .i64 0, .bool false, .slice none 0 0, .slice none 0 0, .bool false, .slice none 0 0, .slice none 0 0] 30)).heap.size := by simp
  have hw1 := hw.on hb1
  obtain ⟨m, hm⟩ := hw1.1
  have HCUT := Lib.hid (Tryz.strings_Cut ⟨s.toArray⟩ ⟨#[32]⟩ m (w.alloc (.cells #[.int .i64 0, .bool false, .slice none 0 0, .slice none 0 0, .bool false, .slice none 0 0, .slice none 0 0] 30)) (by rw [size_str]; omega) hm)
  have HW1 := Lib.hid hw1
  obtain ⟨a, b, has, hcut, hlen, his⟩ := wordFits_cut plWords_no s
  have HIS := Lib.hid his
  clear hw hw1 hm his
  go_enter Tryz.func8, Tryz.ntmps8
  go_wp2_with fail
  refine HCUT.out.mono ?_
  rintro e w1 ⟨rfl, k1, rfl⟩
  rw [hcut]
  replace hrow1 := row_on hrow1 (below_drewN _ k1)
  have hbW := hb1.trans ((below_drewN _ k1).mono hb1.size)
  have hwW := HW1.out.on (below_drewN _ k1)
  have hszW : w.heap.size < ((w.alloc (.cells #[.int .i64 0, .bool false, .slice none 0 0, .slice none 0 0, .bool false, .slice none 0 0, .slice none 0 0] 30)).drewN k1).heap.size := hsz
  clear HCUT HW1 hsz hb1 hcut
  generalize (w.alloc (.cells #[.int .i64 0, .bool false, .slice none 0 0, .slice none 0 0, .bool false, .slice none 0 0, .slice none 0 0] 30)).drewN k1 = W1 at *
  obtain ⟨z, hidx, hz1, hz2, hcall⟩ := headingOf_any a B W1 hwW
  have HID := Lib.hid hidx
  have HC := Lib.hid hcall
  clear hidx hcall
  go_wp2_with fail
  refine HC.out.mono ?_
  rintro e w' ⟨rfl, rfl⟩
  clear HC
  have HP := Lib.hid (ParsePoint_any b B W1 hwW (by omega))
  clear hwW
  go_wp2_with fail
  refine HP.out.mono ?_
  rintro e w2 hback
  obtain ⟨ok, p, p1, n1, c1, p2, n2, c2, q1, m1, d1, q2, m2, d2, rfl, hb2, hyes, hno⟩ := hback.back
  generalize hsx : p.x.neg = sx at *
  generalize hsy : p.y.neg = sy at *
  have HSX := Lib.hid hsx
  have HSY := Lib.hid hsy
  clear hsx hsy
  have hrow4 := row_on hrow1 hb2
  have hbw4 := hbW.trans (hb2.mono hbW.size)
  have hg1 : w.heap.size < w2.heap.size := Nat.lt_of_lt_of_le hszW hb2.size
  have HB2 := Lib.hid hb2
  have HY := Lib.hid hyes
  have HN := Lib.hid hno
  have hlo : w.heap.size < W1.heap.size := hszW
  clear hback HP hrow1 hb2 hyes hno hbW hszW
  have e0 := row_cell hrow4 0
  have f0 := row_frozen hrow4 0
  have e1 := row_cell hrow4 1
  have f1 := row_frozen hrow4 1
  have e2 := row_cell hrow4 2
  have f2 := row_frozen hrow4 2
  have e3 := row_cell hrow4 3
  have f3 := row_frozen hrow4 3
  have e4 := row_cell hrow4 4
  have f4 := row_frozen hrow4 4
  have e5 := row_cell hrow4 5
  have f5 := row_frozen hrow4 5
  have e6 := row_cell hrow4 6
  have f6 := row_frozen hrow4 6
  simp only [List.getElem?_toArray, List.getElem?_cons_zero, List.getElem?_cons_succ] at e0 e1 e2 e3 e4 e5 e6
  have hbL : Below w2.heap.size w2 (w2.alloc (.cells #[.bool sx, .slice p1 n1 c1, .slice p2 n2 c2, .bool sy, .slice q1 m1 d1, .slice q2 m2 d2] 28)) := (Below.refl _ _).alloc (Nat.le_refl _) _
  have HRZ := Lib.hid (row_on (row_set (row_set (row_set (row_set (row_set (row_set (row_set hrow4 0 (.int .i64 0)) 1 (.bool false)) 2 (.slice none 0 0)) 3 (.slice none 0 0)) 4 (.bool false)) 5 (.slice none 0 0)) 6 (.slice none 0 0)) ((Below.refl _ _).alloc (Nat.le_refl _) (.cells #[.bool sx, .slice p1 n1 c1, .slice p2 n2 c2, .bool sy, .slice q1 m1 d1, .slice q2 m2 d2] 28)))
  have HBZ := Lib.hid ((((((((hbw4.setCell (p := ⟨w.heap.size, 0, none⟩) (Nat.le_refl _) (.int .i64 0)).setCell (p := ⟨w.heap.size, 1, none⟩) (Nat.le_refl _) (.bool false)).setCell (p := ⟨w.heap.size, 2, none⟩) (Nat.le_refl _) (.slice none 0 0)).setCell (p := ⟨w.heap.size, 3, none⟩) (Nat.le_refl _) (.slice none 0 0)).setCell (p := ⟨w.heap.size, 4, none⟩) (Nat.le_refl _) (.bool false)).setCell (p := ⟨w.heap.size, 5, none⟩) (Nat.le_refl _) (.slice none 0 0)).setCell (p := ⟨w.heap.size, 6, none⟩) (Nat.le_refl _) (.slice none 0 0)).alloc (by simp only [size_setCell]; omega) (.cells #[.bool sx, .slice p1 n1 c1, .slice p2 n2 c2, .bool sy, .slice q1 m1 d1, .slice q2 m2 d2] 28))
  have HRV := Lib.hid (row_on (row_set (row_set (row_set (row_set (row_set (row_set (row_set hrow4 0 (.int .i64 z)) 1 (.bool sx)) 2 (.slice p1 n1 c1)) 3 (.slice p2 n2 c2)) 4 (.bool sy)) 5 (.slice q1 m1 d1)) 6 (.slice q2 m2 d2)) ((Below.refl _ _).alloc (Nat.le_refl _) (.cells #[.bool sx, .slice p1 n1 c1, .slice p2 n2 c2, .bool sy, .slice q1 m1 d1, .slice q2 m2 d2] 28)))
  have HBV := Lib.hid ((((((((hbw4.setCell (p := ⟨w.heap.size, 0, none⟩) (Nat.le_refl _) (.int .i64 z)).setCell (p := ⟨w.heap.size, 1, none⟩) (Nat.le_refl _) (.bool sx)).setCell (p := ⟨w.heap.size, 2, none⟩) (Nat.le_refl _) (.slice p1 n1 c1)).setCell (p := ⟨w.heap.size, 3, none⟩) (Nat.le_refl _) (.slice p2 n2 c2)).setCell (p := ⟨w.heap.size, 4, none⟩) (Nat.le_refl _) (.bool sy)).setCell (p := ⟨w.heap.size, 5, none⟩) (Nat.le_refl _) (.slice q1 m1 d1)).setCell (p := ⟨w.heap.size, 6, none⟩) (Nat.le_refl _) (.slice q2 m2 d2)).alloc (by simp only [size_setCell]; omega) (.cells #[.bool sx, .slice p1 n1 c1, .slice p2 n2 c2, .bool sy, .slice q1 m1 d1, .slice q2 m2 d2] 28))
  clear hrow4 hbw4 hbL
  by_cases hall : 0 ≤ z ∧ ok = true
  · obtain ⟨hz0, rfl⟩ := hall
    clear HRZ HBZ
    have hzb : decide (z < 0) = false := decide_eq_false (by omega)
    obtain ⟨hfit, hfr⟩ := HY.out (by trivial)
    have HFIT := Lib.hid hfit
    have HFR := Lib.hid hfr
    clear hfit hfr
    go_wp2_with fail
    refine bodyPost_ret (results_row_tmp rfl _ _ w.heap.size 30 _ (0, 0) _ rfl HRV.out Tryz.underlying30 rfl (by kernel_rfl)) rfl ?_
    obtain rfl := HSX.out
    obtain rfl := HSY.out
    rcases HID.out with ⟨k, hk, hka, rfl⟩ | ⟨_, rfl⟩
    · have hA := (((((((HFR.out.set (q := ⟨w.heap.size, 0, none⟩) hlo (.int .i64 k)).set (q := ⟨w.heap.size, 1, none⟩) hlo (.bool p.x.neg)).set (q := ⟨w.heap.size, 2, none⟩) hlo (.slice p1 n1 c1)).set (q := ⟨w.heap.size, 3, none⟩) hlo (.slice p2 n2 c2)).set (q := ⟨w.heap.size, 4, none⟩) hlo (.bool p.y.neg)).set (q := ⟨w.heap.size, 5, none⟩) hlo (.slice q1 m1 d1)).set (q := ⟨w.heap.size, 6, none⟩) hlo (.slice q2 m2 d2)).below ((Below.refl _ _).alloc (Nat.le_refl _) (.cells #[.bool p.x.neg, .slice p1 n1 c1, .slice p2 n2 c2, .bool p.y.neg, .slice q1 m1 d1, .slice q2 m2 d2] 28))
      refine ⟨HBV.out, .inl ⟨k, p, _, _, _, _, (HIS.out k p).2 ⟨⟨hk, hka⟩, HFIT.out⟩, ?_, hA.wide (by omega) (by simp)⟩⟩
      first | rfl | (congr 1)
    · omega
  · clear HRV HBV
    have HALL := Lib.hid hall
    have HNO : Hid (¬ ∃ k p, wordFits plWords s k p) := by
      show ¬ _
      rintro ⟨k, p', hf⟩
      obtain ⟨⟨hk, hka⟩, hp⟩ := (HIS.out k p').1 hf
      apply HALL.out
      constructor
      · rcases HID.out with ⟨k', _, _, rfl⟩ | ⟨hn, _⟩
        · omega
        · exact absurd hka (hn k hk)
      · cases ok with
        | true => rfl
        | false => exact absurd ⟨p', hp⟩ (HN.out (by trivial)).2.1
    clear HID HIS HY HN HB2
    by_cases hz0 : 0 ≤ z
    · have hok : ok = false := by cases ok with
        | true => exact absurd ⟨hz0, rfl⟩ hall
        | false => rfl
      clear hall
      subst hok
      have hzb : decide (z < 0) = false := decide_eq_false (by omega)
      go_wp2_with fail
      refine bodyPost_ret (results_row_tmp rfl _ _ w.heap.size 30 _ (0, 0) _ rfl HRZ.out Tryz.underlying30 rfl (by kernel_rfl)) rfl ?_
      exact ⟨HBZ.out, .inr ⟨HNO.out, rfl⟩⟩
    · clear hall
      have hzb : decide (z < 0) = true := decide_eq_true (by omega)
      go_wp2_with fail
      refine bodyPost_ret (results_row_tmp rfl _ _ w.heap.size 30 _ (0, 0) _ rfl HRZ.out Tryz.underlying30 rfl (by kernel_rfl)) rfl ?_
      exact ⟨HBZ.out, .inr ⟨HNO.out, rfl⟩⟩

set_option maxHeartbeats 1000000 in
set_option maxRecDepth 100000 in
theorem ParseStep_any (s : List UInt8) (B : Nat) (w : World) (hw : Std B w) (hl : s.length ≤ 2000000) :
    Calls Tryz.prog 13 #[(Value.string ⟨(s).toArray⟩)] w (HeadPost stWords (-1) s w) := by
  have hb1 : Below w.heap.size w (w.alloc (.cells #[.int .i64 0, .bool false, .slice none 0 0, .slice none 0 0, .bool false, .slice none 0 0, .slice none 0 0] 37)) := (Below.refl _ _).alloc (Nat.le_refl _) _
  have hrow1 := row_new w #[.int .i64 0, .bool false, .slice none 0 0, .slice none 0 0, .bool false, .slice none 0 0, .slice none 0 0] 37
  have hsz : w.heap.size < (w.alloc (.cells #[.int .i64 0, .bool false, .slice none 0 0, .slice none 0 0, .bool false, .slice none 0 0, .slice none 0 0] 37)).heap.size := by simp
  have hw1 := hw.on hb1
  obtain ⟨m, hm⟩ := hw1.1
  have HCUT := Lib.hid (Tryz.strings_Cut ⟨s.toArray⟩ ⟨#[32]⟩ m (w.alloc (.cells #[.int .i64 0, .bool false, .slice none 0 0, .slice none 0 0, .bool false, .slice none 0 0, .slice none 0 0] 37)) (by rw [size_str]; omega) hm)
  have HW1 := Lib.hid hw1
  obtain ⟨a, b, has, hcut, hlen, his⟩ := wordFits_cut stWords_no s
  have HIS := Lib.hid his
  clear hw hw1 hm his
  go_enter Tryz.func13, Tryz.ntmps13
  go_wp2_with fail
  refine HCUT.out.mono ?_
  rintro e w1 ⟨rfl, k1, rfl⟩
  rw [hcut]
  replace hrow1 := row_on hrow1 (below_drewN _ k1)
  have hbW := hb1.trans ((below_drewN _ k1).mono hb1.size)
  have hwW := HW1.out.on (below_drewN _ k1)
  have hszW : w.heap.size < ((w.alloc (.cells #[.int .i64 0, .bool false, .slice none 0 0, .slice none 0 0, .bool false, .slice none 0 0, .slice none 0 0] 37)).drewN k1).heap.size := hsz
  clear HCUT HW1 hsz hb1 hcut
  generalize (w.alloc (.cells #[.int .i64 0, .bool false, .slice none 0 0, .slice none 0 0, .bool false, .slice none 0 0, .slice none 0 0] 37)).drewN k1 = W1 at *
  have HWD := Lib.hid (stepWords_any W1)
  have hbA : Below W1.heap.size W1 (W1.alloc (.cells #[(Value.string ⟨([114, 105, 103, 104, 116]).toArray⟩), (Value.string ⟨([109, 111, 118, 101]).toArray⟩), (Value.string ⟨([108, 101, 102, 116]).toArray⟩)] 9)) := (Below.refl _ _).alloc (Nat.le_refl _) _
  obtain ⟨z, hidx, hz1, hz2, hcall⟩ := stepIdx_any a _ _ (row_new W1 #[(Value.string ⟨([114, 105, 103, 104, 116]).toArray⟩), (Value.string ⟨([109, 111, 118, 101]).toArray⟩), (Value.string ⟨([108, 101, 102, 116]).toArray⟩)] 9)
  have HID := Lib.hid hidx
  have HC := Lib.hid hcall
  replace hrow1 := row_on hrow1 hbA
  replace hbW := hbW.trans (hbA.mono hbW.size)
  replace hwW := hwW.on hbA
  replace hszW : w.heap.size < (W1.alloc (.cells #[(Value.string ⟨([114, 105, 103, 104, 116]).toArray⟩), (Value.string ⟨([109, 111, 118, 101]).toArray⟩), (Value.string ⟨([108, 101, 102, 116]).toArray⟩)] 9)).heap.size := Nat.lt_of_lt_of_le hszW hbA.size
  clear hidx hcall hbA
  go_wp2_with fail
  refine HWD.out.mono ?_
  rintro e w' ⟨rfl, rfl⟩
  clear HWD
  go_wp2_with fail
  refine HC.out.mono ?_
  rintro e w' ⟨rfl, rfl⟩
  clear HC
  generalize W1.alloc (.cells #[(Value.string ⟨([114, 105, 103, 104, 116]).toArray⟩), (Value.string ⟨([109, 111, 118, 101]).toArray⟩), (Value.string ⟨([108, 101, 102, 116]).toArray⟩)] 9) = W2 at *
  have HP := Lib.hid (ParsePoint_any b B W2 hwW (by omega))
  clear hwW
  go_wp2_with fail
  refine HP.out.mono ?_
  rintro e w2 hback
  obtain ⟨ok, p, p1, n1, c1, p2, n2, c2, q1, m1, d1, q2, m2, d2, rfl, hb2, hyes, hno⟩ := hback.back
  generalize hsx : p.x.neg = sx at *
  generalize hsy : p.y.neg = sy at *
  have HSX := Lib.hid hsx
  have HSY := Lib.hid hsy
  clear hsx hsy
  have hrow4 := row_on hrow1 hb2
  have hbw4 := hbW.trans (hb2.mono hbW.size)
  have hg1 : w.heap.size < w2.heap.size := Nat.lt_of_lt_of_le hszW hb2.size
  have HB2 := Lib.hid hb2
  have HY := Lib.hid hyes
  have HN := Lib.hid hno
  have hlo : w.heap.size < W2.heap.size := hszW
  clear hback HP hrow1 hb2 hyes hno hbW hszW
  have e0 := row_cell hrow4 0
  have f0 := row_frozen hrow4 0
  have e1 := row_cell hrow4 1
  have f1 := row_frozen hrow4 1
  have e2 := row_cell hrow4 2
  have f2 := row_frozen hrow4 2
  have e3 := row_cell hrow4 3
  have f3 := row_frozen hrow4 3
  have e4 := row_cell hrow4 4
  have f4 := row_frozen hrow4 4
  have e5 := row_cell hrow4 5
  have f5 := row_frozen hrow4 5
  have e6 := row_cell hrow4 6
  have f6 := row_frozen hrow4 6
  simp only [List.getElem?_toArray, List.getElem?_cons_zero, List.getElem?_cons_succ] at e0 e1 e2 e3 e4 e5 e6
  have hbL : Below w2.heap.size w2 (w2.alloc (.cells #[.bool sx, .slice p1 n1 c1, .slice p2 n2 c2, .bool sy, .slice q1 m1 d1, .slice q2 m2 d2] 28)) := (Below.refl _ _).alloc (Nat.le_refl _) _
  have HRZ := Lib.hid (row_on (row_set (row_set (row_set (row_set (row_set (row_set (row_set hrow4 0 (.int .i64 0)) 1 (.bool false)) 2 (.slice none 0 0)) 3 (.slice none 0 0)) 4 (.bool false)) 5 (.slice none 0 0)) 6 (.slice none 0 0)) ((Below.refl _ _).alloc (Nat.le_refl _) (.cells #[.bool sx, .slice p1 n1 c1, .slice p2 n2 c2, .bool sy, .slice q1 m1 d1, .slice q2 m2 d2] 28)))
  have HBZ := Lib.hid ((((((((hbw4.setCell (p := ⟨w.heap.size, 0, none⟩) (Nat.le_refl _) (.int .i64 0)).setCell (p := ⟨w.heap.size, 1, none⟩) (Nat.le_refl _) (.bool false)).setCell (p := ⟨w.heap.size, 2, none⟩) (Nat.le_refl _) (.slice none 0 0)).setCell (p := ⟨w.heap.size, 3, none⟩) (Nat.le_refl _) (.slice none 0 0)).setCell (p := ⟨w.heap.size, 4, none⟩) (Nat.le_refl _) (.bool false)).setCell (p := ⟨w.heap.size, 5, none⟩) (Nat.le_refl _) (.slice none 0 0)).setCell (p := ⟨w.heap.size, 6, none⟩) (Nat.le_refl _) (.slice none 0 0)).alloc (by simp only [size_setCell]; omega) (.cells #[.bool sx, .slice p1 n1 c1, .slice p2 n2 c2, .bool sy, .slice q1 m1 d1, .slice q2 m2 d2] 28))
  have HRV := Lib.hid (row_on (row_set (row_set (row_set (row_set (row_set (row_set (row_set hrow4 0 (.int .i64 (z - 1))) 1 (.bool sx)) 2 (.slice p1 n1 c1)) 3 (.slice p2 n2 c2)) 4 (.bool sy)) 5 (.slice q1 m1 d1)) 6 (.slice q2 m2 d2)) ((Below.refl _ _).alloc (Nat.le_refl _) (.cells #[.bool sx, .slice p1 n1 c1, .slice p2 n2 c2, .bool sy, .slice q1 m1 d1, .slice q2 m2 d2] 28)))
  have HBV := Lib.hid ((((((((hbw4.setCell (p := ⟨w.heap.size, 0, none⟩) (Nat.le_refl _) (.int .i64 (z - 1))).setCell (p := ⟨w.heap.size, 1, none⟩) (Nat.le_refl _) (.bool sx)).setCell (p := ⟨w.heap.size, 2, none⟩) (Nat.le_refl _) (.slice p1 n1 c1)).setCell (p := ⟨w.heap.size, 3, none⟩) (Nat.le_refl _) (.slice p2 n2 c2)).setCell (p := ⟨w.heap.size, 4, none⟩) (Nat.le_refl _) (.bool sy)).setCell (p := ⟨w.heap.size, 5, none⟩) (Nat.le_refl _) (.slice q1 m1 d1)).setCell (p := ⟨w.heap.size, 6, none⟩) (Nat.le_refl _) (.slice q2 m2 d2)).alloc (by simp only [size_setCell]; omega) (.cells #[.bool sx, .slice p1 n1 c1, .slice p2 n2 c2, .bool sy, .slice q1 m1 d1, .slice q2 m2 d2] 28))
  clear hrow4 hbw4 hbL
  by_cases hall : 0 ≤ z ∧ ok = true
  · obtain ⟨hz0, rfl⟩ := hall
    clear HRZ HBZ
    have hzb : decide (z < 0) = false := decide_eq_false (by omega)
    obtain ⟨hfit, hfr⟩ := HY.out (by trivial)
    have HFIT := Lib.hid hfit
    have HFR := Lib.hid hfr
    clear hfit hfr
    go_wp2_with fail
    refine bodyPost_ret (results_row_tmp rfl _ _ w.heap.size 37 _ (0, 0) _ rfl HRV.out Tryz.underlying37 rfl (by kernel_rfl)) rfl ?_
    obtain rfl := HSX.out
    obtain rfl := HSY.out
    rcases HID.out with ⟨k, hk, hka, rfl⟩ | ⟨_, rfl⟩
    · have hA := (((((((HFR.out.set (q := ⟨w.heap.size, 0, none⟩) hlo (.int .i64 (k - 1))).set (q := ⟨w.heap.size, 1, none⟩) hlo (.bool p.x.neg)).set (q := ⟨w.heap.size, 2, none⟩) hlo (.slice p1 n1 c1)).set (q := ⟨w.heap.size, 3, none⟩) hlo (.slice p2 n2 c2)).set (q := ⟨w.heap.size, 4, none⟩) hlo (.bool p.y.neg)).set (q := ⟨w.heap.size, 5, none⟩) hlo (.slice q1 m1 d1)).set (q := ⟨w.heap.size, 6, none⟩) hlo (.slice q2 m2 d2)).below ((Below.refl _ _).alloc (Nat.le_refl _) (.cells #[.bool p.x.neg, .slice p1 n1 c1, .slice p2 n2 c2, .bool p.y.neg, .slice q1 m1 d1, .slice q2 m2 d2] 28))
      refine ⟨HBV.out, .inl ⟨k, p, _, _, _, _, (HIS.out k p).2 ⟨⟨hk, hka⟩, HFIT.out⟩, ?_, hA.wide (by omega) (by simp)⟩⟩
      first | rfl | (congr 1)
    · omega
  · clear HRV HBV
    have HALL := Lib.hid hall
    have HNO : Hid (¬ ∃ k p, wordFits stWords s k p) := by
      show ¬ _
      rintro ⟨k, p', hf⟩
      obtain ⟨⟨hk, hka⟩, hp⟩ := (HIS.out k p').1 hf
      apply HALL.out
      constructor
      · rcases HID.out with ⟨k', _, _, rfl⟩ | ⟨hn, _⟩
        · omega
        · exact absurd hka (hn k hk)
      · cases ok with
        | true => rfl
        | false => exact absurd ⟨p', hp⟩ (HN.out (by trivial)).2.1
    clear HID HIS HY HN HB2
    by_cases hz0 : 0 ≤ z
    · have hok : ok = false := by cases ok with
        | true => exact absurd ⟨hz0, rfl⟩ hall
        | false => rfl
      clear hall
      subst hok
      have hzb : decide (z < 0) = false := decide_eq_false (by omega)
      go_wp2_with fail
      refine bodyPost_ret (results_row_tmp rfl _ _ w.heap.size 37 _ (0, 0) _ rfl HRZ.out Tryz.underlying37 rfl (by kernel_rfl)) rfl ?_
      exact ⟨HBZ.out, .inr ⟨HNO.out, rfl⟩⟩
    · clear hall
      have hzb : decide (z < 0) = true := decide_eq_true (by omega)
      go_wp2_with fail
      refine bodyPost_ret (results_row_tmp rfl _ _ w.heap.size 37 _ (0, 0) _ rfl HRZ.out Tryz.underlying37 rfl (by kernel_rfl)) rfl ?_
      exact ⟨HBZ.out, .inr ⟨HNO.out, rfl⟩⟩
end Go.Proofs.YtnpfmmdekjjnjaaGreatDoor
