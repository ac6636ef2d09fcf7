/- Contracts of the laws' own helpers on points, placements and steps: mark, held. -/
import Derived.Test.YtnpfmmdekjjnjaaGreatDoorLawPt
namespace Go.Proofs.YtnpfmmdekjjnjaaGreatDoor
open Go Go.RowKit Pl

theorem markPoint_any (k : Nat) (n m : Bool) (a b c d : Value) (l1 l2 l3 l4 : List Int) (lo hi : Nat) (w : World) (h : Quad w lo hi a b c d l1 l2 l3 l4) (hh : hi ≤ w.heap.size) (hk : k + l1.length + l2.length + l3.length + l4.length ≤ 1099511627776) :
    Calls Tryz.prog 37 #[.agg #[.bool n, a, b, .bool m, c, d], .int .i64 k] w fun e w' => e = .returned (.int .i64 ((k + l1.length + l2.length + l3.length + l4.length : Nat) : Int)) ∧
      Quad w' lo hi a b c d (marks k l1.length) (marks (k + l1.length) l2.length) (marks (k + l1.length + l2.length) l3.length) (marks (k + l1.length + l2.length + l3.length) l4.length) ∧ Within lo hi w w' := by
  obtain ⟨m1, m2, m3, h1, h2, h3, h4, o1, o2, o3, o4⟩ := h
  have hb1 : Below w.heap.size w (w.alloc (.cells #[.bool n, a, b, .bool m, c, d] 28)) := (Below.refl _ _).alloc (Nat.le_refl _) _
  have HC := Lib.hid (markRat_any k n l1 l2 lo m1 m2 a b _ (o1.below hb1) (o2.below hb1) (by simp; omega) h1 h2 (by omega))
  have HO3 := Lib.hid (o3.below hb1)
  have HO4 := Lib.hid (o4.below hb1)
  have HB := Lib.hid hb1
  have hsz : (w.alloc (.cells #[.bool n, a, b, .bool m, c, d] 28)).heap.size = w.heap.size + 1 := by simp
  have hr := row_new w #[.bool n, a, b, .bool m, c, d] 28
  clear hb1 o1 o2 o3 o4
  generalize hq : k + l1.length = q1 at *
  have HQ1 := Lib.hid hq
  clear hq
  generalize hq : q1 + l2.length = q2 at *
  have HQ2 := Lib.hid hq
  clear hq
  generalize hq : q2 + l3.length = q3 at *
  have HQ3 := Lib.hid hq
  clear hq
  generalize hq : q3 + l4.length = q4 at *
  have HQ4 := Lib.hid hq
  have HZ := Lib.hid hsz
  clear hq hsz
  go_enter Tryz.func37, Tryz.ntmps37
  go_wp2_with fail
  refine HC.out.mono ?_
  rintro e w1 ⟨rfl, ho1, ho2, hw⟩
  have hr1 := row_within hr hw (.inr (by omega))
  have q3' := row_cell hr1 3
  have q4' := row_cell hr1 4
  have q5' := row_cell hr1 5
  simp only [List.getElem?_toArray, List.getElem?_cons_zero, List.getElem?_cons_succ] at q3' q4' q5'
  have hs1 : w.heap.size + 1 ≤ w1.heap.size := by rw [← HZ.out]; exact hw.size
  have HC2 := Lib.hid (markRat_any q2 m l3 l4 m2 m3 hi c d _ (HO3.out.within hw (.inr (Nat.le_refl _))) (HO4.out.within hw (.inr h3)) (by omega) h3 h4 (by rw [HQ3.out, HQ4.out]; omega))
  have HO1 := Lib.hid ho1
  have HO2 := Lib.hid ho2
  have HW := Lib.hid hw
  rw [HQ3.out, HQ4.out] at HC2
  clear hr hr1 ho1 ho2 hw
  go_wp2_with fail
  refine HC2.out.mono ?_
  rintro e w2 ⟨rfl, ho3, ho4, hw⟩
  have HO3' := Lib.hid ho3
  have HO4' := Lib.hid ho4
  have HW2 := Lib.hid hw
  clear ho3 ho4 hw
  go_wp2_with fail
  go_ret
  exact ⟨rfl, ⟨m1, m2, m3, h1, h2, h3, h4, HO1.out.within HW2.out (.inl h2), HO2.out.within HW2.out (.inl (Nat.le_refl _)), HO3'.out, HO4'.out⟩,
    (Within.of_below HB.out).trans ((HW.out.wide (Nat.le_refl _) (by omega)).trans (HW2.out.wide (by omega) (Nat.le_refl _)))⟩

theorem markPlacement_any (z : Int) (k : Nat) (n m : Bool) (a b c d : Value) (l1 l2 l3 l4 : List Int) (lo hi : Nat) (w : World) (h : Quad w lo hi a b c d l1 l2 l3 l4) (hh : hi ≤ w.heap.size) (hk : k + l1.length + l2.length + l3.length + l4.length ≤ 1099511627776) :
    Calls Tryz.prog 10 #[.agg #[.int .i64 z, .bool n, a, b, .bool m, c, d], .int .i64 k] w fun e w' => e = .returned (.int .i64 ((k + l1.length + l2.length + l3.length + l4.length : Nat) : Int)) ∧
      Quad w' lo hi a b c d (marks k l1.length) (marks (k + l1.length) l2.length) (marks (k + l1.length + l2.length) l3.length) (marks (k + l1.length + l2.length + l3.length) l4.length) ∧ Within lo hi w w' := by
  have hb1 : Below w.heap.size w (w.alloc (.cells #[.int .i64 z, .bool n, a, b, .bool m, c, d] 30)) := (Below.refl _ _).alloc (Nat.le_refl _) _
  have HC := Lib.hid (markPoint_any k n m a b c d l1 l2 l3 l4 lo hi _ (h.below hb1) (by simp; omega) hk)
  have HB := Lib.hid hb1
  clear h hb1
  generalize hq : k + l1.length = q1 at *
  clear hq
  generalize hq : q1 + l2.length = q2 at *
  clear hq
  generalize hq : q2 + l3.length = q3 at *
  clear hq
  generalize hq : q3 + l4.length = q4 at *
  clear hq
  go_enter Tryz.func10, Tryz.ntmps10
  go_wp2_with fail
  refine HC.out.mono ?_
  rintro e w1 ⟨rfl, ho, hw⟩
  have HO := Lib.hid ho
  have HW := Lib.hid hw
  clear ho hw
  go_wp2_with fail
  go_ret
  exact ⟨rfl, HO.out, (Within.of_below HB.out).trans HW.out⟩
theorem markStep_any (z : Int) (k : Nat) (n m : Bool) (a b c d : Value) (l1 l2 l3 l4 : List Int) (lo hi : Nat) (w : World) (h : Quad w lo hi a b c d l1 l2 l3 l4) (hh : hi ≤ w.heap.size) (hk : k + l1.length + l2.length + l3.length + l4.length ≤ 1099511627776) :
    Calls Tryz.prog 15 #[.agg #[.int .i64 z, .bool n, a, b, .bool m, c, d], .int .i64 k] w fun e w' => e = .returned (.int .i64 ((k + l1.length + l2.length + l3.length + l4.length : Nat) : Int)) ∧
      Quad w' lo hi a b c d (marks k l1.length) (marks (k + l1.length) l2.length) (marks (k + l1.length + l2.length) l3.length) (marks (k + l1.length + l2.length + l3.length) l4.length) ∧ Within lo hi w w' := by
  have hb1 : Below w.heap.size w (w.alloc (.cells #[.int .i64 z, .bool n, a, b, .bool m, c, d] 37)) := (Below.refl _ _).alloc (Nat.le_refl _) _
  have HC := Lib.hid (markPoint_any k n m a b c d l1 l2 l3 l4 lo hi _ (h.below hb1) (by simp; omega) hk)
  have HB := Lib.hid hb1
  clear h hb1
  generalize hq : k + l1.length = q1 at *
  clear hq
  generalize hq : q1 + l2.length = q2 at *
  clear hq
  generalize hq : q2 + l3.length = q3 at *
  clear hq
  generalize hq : q3 + l4.length = q4 at *
  clear hq
  go_enter Tryz.func15, Tryz.ntmps15
  go_wp2_with fail
  refine HC.out.mono ?_
  rintro e w1 ⟨rfl, ho, hw⟩
  have HO := Lib.hid ho
  have HW := Lib.hid hw
  clear ho hw
  go_wp2_with fail
  go_ret
  exact ⟨rfl, HO.out, (Within.of_below HB.out).trans HW.out⟩

theorem heldBigInt_any (k n : Nat) (s : Bool) (va : Value) (w : World) (h : Ints w 0 w.heap.size va (marks k n)) (hk : k + n ≤ 1099511627776) :
    Calls Tryz.prog 96 #[.agg #[.bool s, va], .int .i64 k] w fun e w' => e = .returned (.int .i64 ((k + n : Nat) : Int)) ∧ Below w.heap.size w w' := by
  have hb1 : Below w.heap.size w (w.alloc (.cells #[.bool s, va] 24)) := (Below.refl _ _).alloc (Nat.le_refl _) _
  have HC := Lib.hid (heldIntS_any k n va _ (h.on hb1) hk)
  have HB := Lib.hid hb1
  clear h hb1
  generalize k + n = m at *
  go_enter Tryz.func96, Tryz.ntmps96
  go_wp2_with fail
  refine HC.out.mono ?_
  rintro e w1 ⟨rfl, rfl⟩
  go_wp2_with fail
  go_ret
  exact ⟨rfl, HB.out⟩

theorem heldRat_any (k n1 n2 : Nat) (s : Bool) (va vb : Value) (w : World) (h : Ints w 0 w.heap.size va (marks k n1)) (h' : Ints w 0 w.heap.size vb (marks (k + n1) n2)) (hk : k + n1 + n2 ≤ 1099511627776) :
    Calls Tryz.prog 71 #[.agg #[.bool s, va, vb], .int .i64 k] w fun e w' => e = .returned (.int .i64 ((k + n1 + n2 : Nat) : Int)) ∧ Below w.heap.size w w' := by
  have hb1 : Below w.heap.size w (w.alloc (.cells #[.bool s, va, vb] 26)) := (Below.refl _ _).alloc (Nat.le_refl _) _
  have HC := Lib.hid (heldBigInt_any k n1 s va _ (h.on hb1) (by omega))
  have HI := Lib.hid (h'.on hb1)
  have HB := Lib.hid hb1
  have hr := row_new w #[.bool s, va, vb] 26
  clear h h' hb1
  generalize k + n1 = q1 at *
  have hm : q1 + n2 ≤ 1099511627776 := hk
  generalize hq2 : q1 + n2 = q2 at *
  have HQ := Lib.hid hq2
  clear hq2
  go_enter Tryz.func71, Tryz.ntmps71
  go_wp2_with fail
  refine HC.out.mono ?_
  rintro e w1 ⟨rfl, hb⟩
  have c2 := row_cell (row_on hr hb) 2
  simp only [List.getElem?_toArray, List.getElem?_cons_zero, List.getElem?_cons_succ] at c2
  have HC2 := Lib.hid (heldIntS_any q1 n2 vb _ (HI.out.on hb) (by rw [HQ.out]; exact hm))
  rw [HQ.out] at HC2
  have HB2 := Lib.hid hb
  clear hr hb
  go_wp2_with fail
  refine HC2.out.mono ?_
  rintro e w2 ⟨rfl, rfl⟩
  go_wp2_with fail
  go_ret
  exact ⟨rfl, HB.out.trans (HB2.out.mono HB.out.size)⟩

theorem heldPoint_any (k n1 n2 n3 n4 : Nat) (s t : Bool) (a b c d : Value) (w : World) (h1 : Ints w 0 w.heap.size a (marks k n1)) (h2 : Ints w 0 w.heap.size b (marks (k + n1) n2)) (h3 : Ints w 0 w.heap.size c (marks (k + n1 + n2) n3)) (h4 : Ints w 0 w.heap.size d (marks (k + n1 + n2 + n3) n4)) (hk : k + n1 + n2 + n3 + n4 ≤ 1099511627776) :
    Calls Tryz.prog 38 #[.agg #[.bool s, a, b, .bool t, c, d], .int .i64 k] w fun e w' => e = .returned (.int .i64 ((k + n1 + n2 + n3 + n4 : Nat) : Int)) ∧ Below w.heap.size w w' := by
  have hb1 : Below w.heap.size w (w.alloc (.cells #[.bool s, a, b, .bool t, c, d] 28)) := (Below.refl _ _).alloc (Nat.le_refl _) _
  have HC := Lib.hid (heldRat_any k n1 n2 s a b _ (h1.on hb1) (h2.on hb1) (by omega))
  have HI3 := Lib.hid (h3.on hb1)
  have HI4 := Lib.hid (h4.on hb1)
  have HB := Lib.hid hb1
  have hr := row_new w #[.bool s, a, b, .bool t, c, d] 28
  clear h1 h2 h3 h4 hb1
  generalize k + n1 + n2 = q2 at *
  have hm : q2 + n3 + n4 ≤ 1099511627776 := hk
  generalize hq4 : q2 + n3 + n4 = q4 at *
  have HQ := Lib.hid hq4
  have hq2 : q2 ≤ 1099511627776 := by omega
  clear hq4
  go_enter Tryz.func38, Tryz.ntmps38
  go_wp2_with fail
  refine HC.out.mono ?_
  rintro e w1 ⟨rfl, hb⟩
  have c3 := row_cell (row_on hr hb) 3
  have c4 := row_cell (row_on hr hb) 4
  have c5 := row_cell (row_on hr hb) 5
  simp only [List.getElem?_toArray, List.getElem?_cons_zero, List.getElem?_cons_succ] at c3 c4 c5
  have HC2 := Lib.hid (heldRat_any q2 n3 n4 t c d _ (HI3.out.on hb) (HI4.out.on hb) (by rw [HQ.out]; exact hm))
  rw [HQ.out] at HC2
  have HB2 := Lib.hid hb
  clear hr hb
  go_wp2_with fail
  refine HC2.out.mono ?_
  rintro e w2 ⟨rfl, hb⟩
  have HB3 := Lib.hid hb
  clear hb
  go_wp2_with fail
  go_ret
  have hbw := HB.out.trans (HB2.out.mono HB.out.size)
  exact ⟨rfl, hbw.trans (HB3.out.mono hbw.size)⟩

theorem heldPlacement_any (z : Int) (k n1 n2 n3 n4 : Nat) (s t : Bool) (a b c d : Value) (w : World) (h1 : Ints w 0 w.heap.size a (marks k n1)) (h2 : Ints w 0 w.heap.size b (marks (k + n1) n2)) (h3 : Ints w 0 w.heap.size c (marks (k + n1 + n2) n3)) (h4 : Ints w 0 w.heap.size d (marks (k + n1 + n2 + n3) n4)) (hk : k + n1 + n2 + n3 + n4 ≤ 1099511627776) :
    Calls Tryz.prog 11 #[.agg #[.int .i64 z, .bool s, a, b, .bool t, c, d], .int .i64 k] w fun e w' => e = .returned (.int .i64 ((k + n1 + n2 + n3 + n4 : Nat) : Int)) ∧ Below w.heap.size w w' := by
  have hb1 : Below w.heap.size w (w.alloc (.cells #[.int .i64 z, .bool s, a, b, .bool t, c, d] 30)) := (Below.refl _ _).alloc (Nat.le_refl _) _
  have HC := Lib.hid (heldPoint_any k n1 n2 n3 n4 s t a b c d _ (h1.on hb1) (h2.on hb1) (h3.on hb1) (h4.on hb1) hk)
  have HB := Lib.hid hb1
  clear h1 h2 h3 h4 hb1
  generalize k + n1 + n2 + n3 + n4 = q at *
  go_enter Tryz.func11, Tryz.ntmps11
  go_wp2_with fail
  refine HC.out.mono ?_
  rintro e w1 ⟨rfl, hb⟩
  have HB2 := Lib.hid hb
  clear hb
  go_wp2_with fail
  go_ret
  exact ⟨rfl, HB.out.trans (HB2.out.mono HB.out.size)⟩
theorem heldStep_any (z : Int) (k n1 n2 n3 n4 : Nat) (s t : Bool) (a b c d : Value) (w : World) (h1 : Ints w 0 w.heap.size a (marks k n1)) (h2 : Ints w 0 w.heap.size b (marks (k + n1) n2)) (h3 : Ints w 0 w.heap.size c (marks (k + n1 + n2) n3)) (h4 : Ints w 0 w.heap.size d (marks (k + n1 + n2 + n3) n4)) (hk : k + n1 + n2 + n3 + n4 ≤ 1099511627776) :
    Calls Tryz.prog 16 #[.agg #[.int .i64 z, .bool s, a, b, .bool t, c, d], .int .i64 k] w fun e w' => e = .returned (.int .i64 ((k + n1 + n2 + n3 + n4 : Nat) : Int)) ∧ Below w.heap.size w w' := by
  have hb1 : Below w.heap.size w (w.alloc (.cells #[.int .i64 z, .bool s, a, b, .bool t, c, d] 37)) := (Below.refl _ _).alloc (Nat.le_refl _) _
  have HC := Lib.hid (heldPoint_any k n1 n2 n3 n4 s t a b c d _ (h1.on hb1) (h2.on hb1) (h3.on hb1) (h4.on hb1) hk)
  have HB := Lib.hid hb1
  clear h1 h2 h3 h4 hb1
  generalize k + n1 + n2 + n3 + n4 = q at *
  go_enter Tryz.func16, Tryz.ntmps16
  go_wp2_with fail
  refine HC.out.mono ?_
  rintro e w1 ⟨rfl, hb⟩
  have HB2 := Lib.hid hb
  clear hb
  go_wp2_with fail
  go_ret
  exact ⟨rfl, HB.out.trans (HB2.out.mono HB.out.size)⟩
end Go.Proofs.YtnpfmmdekjjnjaaGreatDoor
