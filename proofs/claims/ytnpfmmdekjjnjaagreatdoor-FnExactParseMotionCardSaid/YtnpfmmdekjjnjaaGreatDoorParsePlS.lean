/- Contracts: reading a placement and a step: spec.ParsePlacement, spec.ParseStep. PRINTED BY wip/tools/mkwords2.py. -/
import Derived.Test.YtnpfmmdekjjnjaaGreatDoorFmtStepS
import Derived.Deep.LoopGhost
namespace Go.Proofs.YtnpfmmdekjjnjaaGreatDoor
open Go Go.RowKit Go.Deep Pl

theorem row_other {w : World} {g : Nat} {cs : Array Value} {t : TypeId} (h : w.heap[g]? = some (.cells cs t)) {p : Addr} (hne : g ≠ p.block) (x : Value) : (w.setCell p x).heap[g]? = some (.cells cs t) :=
  (Below.heap_setCell w p x g hne).trans h
theorem RatV.set {w : World} {lo hi : Nat} {v : Value} {r : Frac} (h : RatV w lo hi v r) {q : Addr} (hq : q.block < lo) (x : Value) : RatV (w.setCell q x) lo hi v r := by
  obtain ⟨a, b, e, h1, h2, h3⟩ := h
  exact ⟨a, b, e, Ints.set h1 hq x, Ints.set h2 hq x, h3⟩
theorem PtV.set {w : World} {lo hi : Nat} {v : Value} {p : Pt} (h : PtV w lo hi v p) {q : Addr} (hq : q.block < lo) (x : Value) : PtV (w.setCell q x) lo hi v p := by
  obtain ⟨a, b, c, d, e, h1, h2⟩ := h
  exact ⟨a, b, c, d, e, h1.set hq x, h2.set hq x⟩
theorem Ints.lift0 {w : World} {lo hi lo' hi' : Nat} {v : Value} {l : List Int} (h : Ints w lo hi v l) (h0 : l = []) : Ints w lo' hi' v l := by
  obtain ⟨p, c, h1, h2, h3, h4, _⟩ := h
  exact ⟨p, c, h1, h2, h3, h4, fun hl => by rw [h0] at hl; exact absurd hl (by simp)⟩
theorem PtV.lift {w : World} {lo hi lo' hi' : Nat} {v : Value} (h : PtV w lo hi v zeroPtD) : PtV w lo' hi' v zeroPtD := by
  obtain ⟨a, b, c, d, e, ⟨a1, b1, e1, h1, h2, h3⟩, ⟨a2, b2, e2, h4, h5, h6⟩⟩ := h
  exact ⟨a, b, c, d, e, ⟨a1, b1, e1, Ints.lift0 h1 limbs_zero, Ints.lift0 h2 limbs_zero, h3⟩, ⟨a2, b2, e2, Ints.lift0 h4 limbs_zero, Ints.lift0 h5 limbs_zero, h6⟩⟩
theorem fmtWord_ne {ws : List (List UInt8)} {k : Nat} {p : Pt} (h : fmtWord ws k p ≠ []) : k < ws.length ∧ p.ok := by
  unfold fmtWord at h
  by_cases hc : k < ws.length ∧ p.ok
  · exact hc
  · rw [if_neg hc] at h; exact absurd rfl h

set_option maxHeartbeats 2000000 in
set_option maxRecDepth 100000 in
theorem sParsePlacement_any (s : List UInt8) (w : World) (hl : s.length ≤ 2000000) :
    Calls Tryz.prog 7 #[(Value.string ⟨(s).toArray⟩)] w (HeadPost plWords (0) s w) := by
  have hb1 : Below w.heap.size w (w.alloc (.cells #[.int .i64 0, .bool false, .slice none 0 0, .slice none 0 0, .bool false, .slice none 0 0, .slice none 0 0] 30)) := (Below.refl _ _).alloc (Nat.le_refl _) _
  have hrow1 := row_new w #[.int .i64 0, .bool false, .slice none 0 0, .slice none 0 0, .bool false, .slice none 0 0, .slice none 0 0] 30
  have hsz : w.heap.size < (w.alloc (.cells #[.int .i64 0, .bool false, .slice none 0 0, .slice none 0 0, .bool false, .slice none 0 0, .slice none 0 0] 30)).heap.size := by simp
  have HSP := Lib.hid (SplitAny_any s 32 (w.alloc (.cells #[.int .i64 0, .bool false, .slice none 0 0, .slice none 0 0, .bool false, .slice none 0 0, .slice none 0 0] 30)) (by omega))
  by_cases h2 : ∃ a b, split1 32 s = [a, b]
  · obtain ⟨a, b, hspl⟩ := h2
    obtain ⟨hs, hno, _⟩ := split_two hspl
    have HIS := Lib.hid (fun k p => hs ▸ wordFits_iff plWords_no (a := a) (b := b) hno (k := k) (p := p))
    have hlen : a.length + b.length ≤ s.length := by rw [hs, List.length_append, List.length_cons]; omega
    have HSPL := Lib.hid hspl
    have HSE := Lib.hid hs
    clear hs hspl
    go_enter Tryz.func7, Tryz.ntmps7
    go_wp2_with fail
    refine HSP.out.mono ?_
    rintro e w1 ⟨v1, rfl, hown, hbs⟩
    rw [HSPL.out] at hown
    obtain ⟨g, c, rfl, _, hg, _⟩ := hown.cell (i := 0) (by simp)
    obtain ⟨g', cg, he, hc1, _, _⟩ := hown.cell (i := 1) (by simp)
    injection he with he _ _
    injection he with he
    injection he with he _ _
    subst he
    rw [show [a, b].getD 1 [] = b from rfl] at hc1
    have hrow1' := row_on hrow1 hbs
    have hb1' := hb1.trans (hbs.mono hb1.size)
    have hlo : w.heap.size < w1.heap.size := Nat.lt_of_lt_of_le hsz hbs.size
    have hbP : Below w1.heap.size w1 (w1.alloc (.cells #[.int .i64 0, .bool false, .slice none 0 0, .slice none 0 0, .bool false, .slice none 0 0, .slice none 0 0] 30)) := (Below.refl _ _).alloc (Nat.le_refl _) _
    have hrowP := row_new w1 #[.int .i64 0, .bool false, .slice none 0 0, .slice none 0 0, .bool false, .slice none 0 0, .slice none 0 0] 30
    have hrowR := row_on hrow1' hbP
    have hbw := hb1'.trans (hbP.mono hb1'.size)
    have hlt : w1.heap.size < (w1.alloc (.cells #[.int .i64 0, .bool false, .slice none 0 0, .slice none 0 0, .bool false, .slice none 0 0, .slice none 0 0] 30)).heap.size := by simp
    have HP := Lib.hid (sParsePoint_any b (w1.alloc (.cells #[.int .i64 0, .bool false, .slice none 0 0, .slice none 0 0, .bool false, .slice none 0 0, .slice none 0 0] 30)) (by omega))
    clear hown HSP hb1 hrow1 hsz hbs hrow1' hb1' hbP HSPL
    go_wp2_with fail
    refine HP.out.mono ?_
    rintro e w2 hback
    obtain ⟨ok, p, p1, n1, c1, p2, n2, c2, q1, m1, d1, q2, m2, d2, rfl, hb2, hyes, hno⟩ := hback.back
    have hsm : p.small := by
      cases ok with
      | true => exact Pt.ok.small ⟨(hyes rfl).1.1.1.1, (hyes rfl).1.1.2.1⟩
      | false =>
        rw [(hno rfl).1]
        refine ⟨⟨?_, ?_⟩, ⟨?_, ?_⟩⟩ <;> (show (limbs 0).length ≤ 60; rw [limbs_zero]; exact Nat.zero_le _)
    have hfit : ok = true → ptFits b p := fun h => (hyes h).1
    have hnofit : ok = false → ¬ p.ok ∧ ¬ ∃ p, ptFits b p := fun h => ⟨by rw [(hno h).1]; exact zeroPtD_no, (hno h).2.1⟩
    have hval : PtV w2 (w1.heap.size + 1) w2.heap.size (.agg #[.bool p.x.neg, .slice p1 n1 c1, .slice p2 n2 c2, .bool p.y.neg, .slice q1 m1 d1, .slice q2 m2 d2]) p := by
      cases ok with
      | true => exact (hyes rfl).2.val.wide (by simp) (Nat.le_refl _)
      | false =>
        have h0 := (hno rfl).1
        subst h0
        exact (hno rfl).2.2.lift
    have hfr : ok = true → FreshPt w2 (w1.alloc (.cells #[.int .i64 0, .bool false, .slice none 0 0, .slice none 0 0, .bool false, .slice none 0 0, .slice none 0 0] 30)).heap.size w2.heap.size (.agg #[.bool p.x.neg, .slice p1 n1 c1, .slice p2 n2 c2, .bool p.y.neg, .slice q1 m1 d1, .slice q2 m2 d2]) p := fun h => (hyes h).2
    have hrowP2 := row_on hrowP hb2
    have hrowR2 := row_on hrowR hb2
    have hbw2 := hbw.trans (hb2.mono hbw.size)
    have hltP : w1.heap.size < w2.heap.size := Nat.lt_of_lt_of_le hlt hb2.size
    have hlow : (w1.alloc (.cells #[.int .i64 0, .bool false, .slice none 0 0, .slice none 0 0, .bool false, .slice none 0 0, .slice none 0 0] 30)).heap.size = w1.heap.size + 1 := by simp
    rw [hlow] at hfr
    have HVAL := Lib.hid hval
    have HFR := Lib.hid hfr
    have HFIT := Lib.hid hfit
    have HNOF := Lib.hid hnofit
    have HBW := Lib.hid hbw2
    clear hback HP hb2 hyes hno hval hfr hfit hnofit hrowP hrowR hbw hlow hbw2 hlt hc1
    generalize hsx : p.x.neg = sx at *
    generalize hsy : p.y.neg = sy at *
    have HSX := Lib.hid hsx
    have HSY := Lib.hid hsy
    clear hsx hsy
    have e0 := row_cell hrowP2 0
    have f0 := row_frozen hrowP2 0
    have e1 := row_cell hrowP2 1
    have f1 := row_frozen hrowP2 1
    have e2 := row_cell hrowP2 2
    have f2 := row_frozen hrowP2 2
    have e3 := row_cell hrowP2 3
    have f3 := row_frozen hrowP2 3
    have e4 := row_cell hrowP2 4
    have f4 := row_frozen hrowP2 4
    have e5 := row_cell hrowP2 5
    have f5 := row_frozen hrowP2 5
    have e6 := row_cell hrowP2 6
    have f6 := row_frozen hrowP2 6
    simp only [List.getElem?_toArray, List.getElem?_cons_zero, List.getElem?_cons_succ] at e0 e1 e2 e3 e4 e5 e6
    have HRP := Lib.hid (row_set (row_set (row_set (row_set (row_set (row_set (row_set hrowP2 1 (.bool sx)) 2 (.slice p1 n1 c1)) 3 (.slice p2 n2 c2)) 4 (.bool sy)) 5 (.slice q1 m1 d1)) 6 (.slice q2 m2 d2)) 0 (.int .i64 0))
    have HPS := Lib.hid hrowR2
    clear hrowR2 hrowP2
    go_wp2_with fail
    go_loopg [] 4 (fun G wr => ∃ k : Nat, k ≤ 4 ∧ G = 4 - k ∧ Hid (wr.heap[w1.heap.size]? = some (.cells #[.int .i64 (k : Int), .bool sx, .slice p1 n1 c1, .slice p2 n2 c2, .bool sy, .slice q1 m1 d1, .slice q2 m2 d2] 30)) ∧ Hid (wr.heap[w.heap.size]? = some (.cells #[.int .i64 0, .bool false, .slice none 0 0, .slice none 0 0, .bool false, .slice none 0 0, .slice none 0 0] 30)) ∧ Hid (Below w.heap.size w wr) ∧ w1.heap.size < wr.heap.size ∧ Hid (PtV wr (w1.heap.size + 1) wr.heap.size (.agg #[.bool sx, .slice p1 n1 c1, .slice p2 n2 c2, .bool sy, .slice q1 m1 d1, .slice q2 m2 d2]) p) ∧ Hid (ok = true → FreshPt wr (w1.heap.size + 1) wr.heap.size (.agg #[.bool sx, .slice p1 n1 c1, .slice p2 n2 c2, .bool sy, .slice q1 m1 d1, .slice q2 m2 d2]) p) ∧ Hid (∀ j, j < k → ¬ (fmtWord plWords j p ≠ [] ∧ fmtWord plWords j p = s)))
    case atStart =>
      have hne : w.heap.size ≠ w1.heap.size := Nat.ne_of_lt hlo
      refine ⟨0, Nat.zero_le _, rfl, HRP.out, (row_other (row_other (row_other (row_other (row_other (row_other (row_other HPS.out (p := ⟨w1.heap.size, 1, none⟩) hne (.bool sx)) (p := ⟨w1.heap.size, 2, none⟩) hne (.slice p1 n1 c1)) (p := ⟨w1.heap.size, 3, none⟩) hne (.slice p2 n2 c2)) (p := ⟨w1.heap.size, 4, none⟩) hne (.bool sy)) (p := ⟨w1.heap.size, 5, none⟩) hne (.slice q1 m1 d1)) (p := ⟨w1.heap.size, 6, none⟩) hne (.slice q2 m2 d2)) (p := ⟨w1.heap.size, 0, none⟩) hne (.int .i64 0)), (((((((HBW.out.setCell (p := ⟨w1.heap.size, 1, none⟩) (Nat.le_of_lt hlo) (.bool sx)).setCell (p := ⟨w1.heap.size, 2, none⟩) (Nat.le_of_lt hlo) (.slice p1 n1 c1)).setCell (p := ⟨w1.heap.size, 3, none⟩) (Nat.le_of_lt hlo) (.slice p2 n2 c2)).setCell (p := ⟨w1.heap.size, 4, none⟩) (Nat.le_of_lt hlo) (.bool sy)).setCell (p := ⟨w1.heap.size, 5, none⟩) (Nat.le_of_lt hlo) (.slice q1 m1 d1)).setCell (p := ⟨w1.heap.size, 6, none⟩) (Nat.le_of_lt hlo) (.slice q2 m2 d2)).setCell (p := ⟨w1.heap.size, 0, none⟩) (Nat.le_of_lt hlo) (.int .i64 0)), ?_, ?_, ?_, fun j hj => absurd hj (Nat.not_lt_zero _)⟩
      · simp only [size_setCell]; exact hltP
      · simp only [size_setCell]; exact (((((((HVAL.out.set (q := ⟨w1.heap.size, 1, none⟩) (Nat.lt_succ_self _) (.bool sx)).set (q := ⟨w1.heap.size, 2, none⟩) (Nat.lt_succ_self _) (.slice p1 n1 c1)).set (q := ⟨w1.heap.size, 3, none⟩) (Nat.lt_succ_self _) (.slice p2 n2 c2)).set (q := ⟨w1.heap.size, 4, none⟩) (Nat.lt_succ_self _) (.bool sy)).set (q := ⟨w1.heap.size, 5, none⟩) (Nat.lt_succ_self _) (.slice q1 m1 d1)).set (q := ⟨w1.heap.size, 6, none⟩) (Nat.lt_succ_self _) (.slice q2 m2 d2)).set (q := ⟨w1.heap.size, 0, none⟩) (Nat.lt_succ_self _) (.int .i64 0))
      · simp only [size_setCell]; exact fun h => ((((((((HFR.out h).set (q := ⟨w1.heap.size, 1, none⟩) (Nat.lt_succ_self _) (.bool sx)).set (q := ⟨w1.heap.size, 2, none⟩) (Nat.lt_succ_self _) (.slice p1 n1 c1)).set (q := ⟨w1.heap.size, 3, none⟩) (Nat.lt_succ_self _) (.slice p2 n2 c2)).set (q := ⟨w1.heap.size, 4, none⟩) (Nat.lt_succ_self _) (.bool sy)).set (q := ⟨w1.heap.size, 5, none⟩) (Nat.lt_succ_self _) (.slice q1 m1 d1)).set (q := ⟨w1.heap.size, 6, none⟩) (Nat.lt_succ_self _) (.slice q2 m2 d2)).set (q := ⟨w1.heap.size, 0, none⟩) (Nat.lt_succ_self _) (.int .i64 0))
    case round =>
      obtain ⟨k, hk, rfl, HPr, HRr, HBr, hltr, HVr, HFr, HNr⟩ := hrel
      clear e0 e1 e2 e3 e4 e5 e6 f0 f1 f2 f3 f4 f5 f6 HPS HRP HVAL HFR HBW
      by_cases hkn : k < 4
      · have HFA := Lib.hid (show ∀ W', Below wr.heap.size wr W' → Calls Tryz.prog 32 #[.agg #[.int .i64 (k : Int), .bool sx, .slice p1 n1 c1, .slice p2 n2 c2, .bool sy, .slice q1 m1 d1, .slice q2 m2 d2]] W' fun e w' => e = .returned (Value.string ⟨(fmtWord plWords k p).toArray⟩) ∧ Below W'.heap.size W' w' from fun W' hW => by
          have := sFormatPlacement_any k hkn p (.slice p1 n1 c1) (.slice p2 n2 c2) (.slice q1 m1 d1) (.slice q2 m2 d2) W' (by rw [HSX.out, HSY.out]; exact ((HVr.out.on hW).wide (Nat.zero_le _) (Nat.le_refl _))) hsm
          rw [HSX.out, HSY.out] at this
          exact this)
        have REL := Lib.hid (show ∀ wx, Below wr.heap.size wr wx → (¬ (fmtWord plWords k p ≠ [] ∧ fmtWord plWords k p = s)) → Hid ((wx.setCell ⟨w1.heap.size, 0, none⟩ (.int .i64 ((k : Int) + 1))).heap[w1.heap.size]? = some (.cells #[.int .i64 ((k : Int) + 1), .bool sx, .slice p1 n1 c1, .slice p2 n2 c2, .bool sy, .slice q1 m1 d1, .slice q2 m2 d2] 30)) ∧ Hid ((wx.setCell ⟨w1.heap.size, 0, none⟩ (.int .i64 ((k : Int) + 1))).heap[w.heap.size]? = some (.cells #[.int .i64 0, .bool false, .slice none 0 0, .slice none 0 0, .bool false, .slice none 0 0, .slice none 0 0] 30)) ∧ Hid (Below w.heap.size w (wx.setCell ⟨w1.heap.size, 0, none⟩ (.int .i64 ((k : Int) + 1)))) ∧ w1.heap.size < (wx.setCell ⟨w1.heap.size, 0, none⟩ (.int .i64 ((k : Int) + 1))).heap.size ∧ Hid (PtV (wx.setCell ⟨w1.heap.size, 0, none⟩ (.int .i64 ((k : Int) + 1))) (w1.heap.size + 1) (wx.setCell ⟨w1.heap.size, 0, none⟩ (.int .i64 ((k : Int) + 1))).heap.size (.agg #[.bool sx, .slice p1 n1 c1, .slice p2 n2 c2, .bool sy, .slice q1 m1 d1, .slice q2 m2 d2]) p) ∧ Hid (ok = true → FreshPt (wx.setCell ⟨w1.heap.size, 0, none⟩ (.int .i64 ((k : Int) + 1))) (w1.heap.size + 1) (wx.setCell ⟨w1.heap.size, 0, none⟩ (.int .i64 ((k : Int) + 1))).heap.size (.agg #[.bool sx, .slice p1 n1 c1, .slice p2 n2 c2, .bool sy, .slice q1 m1 d1, .slice q2 m2 d2]) p) ∧ Hid (∀ j, j < k + 1 → ¬ (fmtWord plWords j p ≠ [] ∧ fmtWord plWords j p = s)) from fun wx hx hnm => by
          have hx1 := hx.size
          have hne : w.heap.size ≠ w1.heap.size := Nat.ne_of_lt hlo
          refine ⟨row_set (row_on HPr.out hx) 0 _, row_other (row_on HRr.out hx) (p := ⟨w1.heap.size, 0, none⟩) hne _, (HBr.out.trans (hx.mono HBr.out.size)).setCell (p := ⟨w1.heap.size, 0, none⟩) (Nat.le_of_lt hlo) _, ?_, ?_, ?_, ?_⟩
          · simp only [size_setCell]; omega
          · simp only [size_setCell]; exact (HVr.out.on hx).set (q := ⟨w1.heap.size, 0, none⟩) (Nat.lt_succ_self _) _
          · simp only [size_setCell]; exact fun h => (((HFr.out h).below hx).wide (Nat.le_refl _) hx.size).set (q := ⟨w1.heap.size, 0, none⟩) (Nat.lt_succ_self _) _
          · intro j hj
            rcases Nat.lt_or_ge j k with h | h
            · exact HNr.out j h
            · obtain rfl : j = k := by omega
              exact hnm)
        have HOKF := Lib.hid (show fmtWord plWords k p ≠ [] → ok = true from fun h => by
          cases ok with
          | true => rfl
          | false => exact absurd (fmtWord_ne h).2 (HNOF.out rfl).1)
        generalize hf : fmtWord plWords k p = f at HFA REL HOKF
        have HFW := Lib.hid hf
        clear hf
        have e0 := row_cell HPr.out 0
        have e1 := row_cell HPr.out 1
        have e2 := row_cell HPr.out 2
        have e3 := row_cell HPr.out 3
        have e4 := row_cell HPr.out 4
        have e5 := row_cell HPr.out 5
        have e6 := row_cell HPr.out 6
        simp only [List.getElem?_toArray, List.getElem?_cons_zero, List.getElem?_cons_succ] at e0 e1 e2 e3 e4 e5 e6
        have hb7 : decide ((k : Int) < 4) = true := decide_eq_true (by omega)
        by_cases hm : f ≠ [] ∧ f = s
        · obtain ⟨hne, rfl⟩ := hm
          have hsn : (f == ([] : List UInt8)) = false := beq_eq_false_iff_ne.2 hne
          have HNE := Lib.hid hne
          clear hne REL
          go_wp2_with fail
          refine (HFA.out _ (Below.refl _ _)).mono ?_
          rintro e wa ⟨rfl, hbwa⟩
          replace e0 := (hbwa.cell (p := ⟨w1.heap.size, 0, none⟩) hltr).trans e0
          replace e1 := (hbwa.cell (p := ⟨w1.heap.size, 1, none⟩) hltr).trans e1
          replace e2 := (hbwa.cell (p := ⟨w1.heap.size, 2, none⟩) hltr).trans e2
          replace e3 := (hbwa.cell (p := ⟨w1.heap.size, 3, none⟩) hltr).trans e3
          replace e4 := (hbwa.cell (p := ⟨w1.heap.size, 4, none⟩) hltr).trans e4
          replace e5 := (hbwa.cell (p := ⟨w1.heap.size, 5, none⟩) hltr).trans e5
          replace e6 := (hbwa.cell (p := ⟨w1.heap.size, 6, none⟩) hltr).trans e6
          have hltwa : w1.heap.size < wa.heap.size := Nat.lt_of_lt_of_le hltr hbwa.size
          go_wp2_with fail
          refine (HFA.out _ hbwa).mono ?_
          rintro e wb ⟨rfl, hbwb⟩
          replace e0 := (hbwb.cell (p := ⟨w1.heap.size, 0, none⟩) hltwa).trans e0
          replace e1 := (hbwb.cell (p := ⟨w1.heap.size, 1, none⟩) hltwa).trans e1
          replace e2 := (hbwb.cell (p := ⟨w1.heap.size, 2, none⟩) hltwa).trans e2
          replace e3 := (hbwb.cell (p := ⟨w1.heap.size, 3, none⟩) hltwa).trans e3
          replace e4 := (hbwb.cell (p := ⟨w1.heap.size, 4, none⟩) hltwa).trans e4
          replace e5 := (hbwb.cell (p := ⟨w1.heap.size, 5, none⟩) hltwa).trans e5
          replace e6 := (hbwb.cell (p := ⟨w1.heap.size, 6, none⟩) hltwa).trans e6
          have hltwb : w1.heap.size < wb.heap.size := Nat.lt_of_lt_of_le hltwa hbwb.size
          have hbx := hbwa.trans (hbwb.mono hbwa.size)
          have hR := row_on HRr.out hbx
          have hBW := HBr.out.trans (hbx.mono HBr.out.size)
          have r0 := row_cell hR 0
          have f0 := row_frozen hR 0
          have r1 := row_cell hR 1
          have f1 := row_frozen hR 1
          have r2 := row_cell hR 2
          have f2 := row_frozen hR 2
          have r3 := row_cell hR 3
          have f3 := row_frozen hR 3
          have r4 := row_cell hR 4
          have f4 := row_frozen hR 4
          have r5 := row_cell hR 5
          have f5 := row_frozen hR 5
          have r6 := row_cell hR 6
          have f6 := row_frozen hR 6
          simp only [List.getElem?_toArray, List.getElem?_cons_zero, List.getElem?_cons_succ] at r0 r1 r2 r3 r4 r5 r6
          have HRV := Lib.hid (row_set (row_set (row_set (row_set (row_set (row_set (row_set hR 0 (.int .i64 (k : Int))) 1 (.bool sx)) 2 (.slice p1 n1 c1)) 3 (.slice p2 n2 c2)) 4 (.bool sy)) 5 (.slice q1 m1 d1)) 6 (.slice q2 m2 d2))
          have HBV := Lib.hid (((((((hBW.setCell (p := ⟨w.heap.size, 0, none⟩) (Nat.le_refl _) (.int .i64 (k : Int))).setCell (p := ⟨w.heap.size, 1, none⟩) (Nat.le_refl _) (.bool sx)).setCell (p := ⟨w.heap.size, 2, none⟩) (Nat.le_refl _) (.slice p1 n1 c1)).setCell (p := ⟨w.heap.size, 3, none⟩) (Nat.le_refl _) (.slice p2 n2 c2)).setCell (p := ⟨w.heap.size, 4, none⟩) (Nat.le_refl _) (.bool sy)).setCell (p := ⟨w.heap.size, 5, none⟩) (Nat.le_refl _) (.slice q1 m1 d1)).setCell (p := ⟨w.heap.size, 6, none⟩) (Nat.le_refl _) (.slice q2 m2 d2))
          have HX := Lib.hid hbx
          clear hR hBW hbx hbwa hbwb HFA
          go_wp2_with fail
          refine bodyPost_ret (results_row_tmp rfl _ _ w.heap.size 30 _ (0, 0) _ rfl HRV.out Tryz.underlying30 rfl (by kernel_rfl)) rfl ?_
          obtain rfl := HSX.out
          obtain rfl := HSY.out
          have hok := HOKF.out HNE.out
          have hA := (((((((((HFr.out hok).below HX.out).set (q := ⟨w.heap.size, 0, none⟩) (Nat.lt_succ_of_lt hlo) (.int .i64 (k : Int))).set (q := ⟨w.heap.size, 1, none⟩) (Nat.lt_succ_of_lt hlo) (.bool p.x.neg)).set (q := ⟨w.heap.size, 2, none⟩) (Nat.lt_succ_of_lt hlo) (.slice p1 n1 c1)).set (q := ⟨w.heap.size, 3, none⟩) (Nat.lt_succ_of_lt hlo) (.slice p2 n2 c2)).set (q := ⟨w.heap.size, 4, none⟩) (Nat.lt_succ_of_lt hlo) (.bool p.y.neg)).set (q := ⟨w.heap.size, 5, none⟩) (Nat.lt_succ_of_lt hlo) (.slice q1 m1 d1)).set (q := ⟨w.heap.size, 6, none⟩) (Nat.lt_succ_of_lt hlo) (.slice q2 m2 d2))
          refine ⟨HBV.out, .inl ⟨k, p, _, _, _, _, ((fmtWord_fits (HFIT.out hok).1).1 (by rw [HFW.out]; exact ⟨HNE.out, rfl⟩)).1, ?_, hA.wide (by omega) (by simp only [size_setCell]; exact HX.out.size)⟩⟩
          first | rfl | (congr 1)
        · have HM := Lib.hid hm
          by_cases he : f = []
          · subst he
            clear hm
            go_wp2_with fail
            refine (HFA.out _ (Below.refl _ _)).mono ?_
            rintro e wa ⟨rfl, hbwa⟩
            replace e0 := (hbwa.cell (p := ⟨w1.heap.size, 0, none⟩) hltr).trans e0
            replace e1 := (hbwa.cell (p := ⟨w1.heap.size, 1, none⟩) hltr).trans e1
            replace e2 := (hbwa.cell (p := ⟨w1.heap.size, 2, none⟩) hltr).trans e2
            replace e3 := (hbwa.cell (p := ⟨w1.heap.size, 3, none⟩) hltr).trans e3
            replace e4 := (hbwa.cell (p := ⟨w1.heap.size, 4, none⟩) hltr).trans e4
            replace e5 := (hbwa.cell (p := ⟨w1.heap.size, 5, none⟩) hltr).trans e5
            replace e6 := (hbwa.cell (p := ⟨w1.heap.size, 6, none⟩) hltr).trans e6
            have hltwa : w1.heap.size < wa.heap.size := Nat.lt_of_lt_of_le hltr hbwa.size
            have f0 := row_frozen (row_on HPr.out hbwa) 0
            have HRL := Lib.hid (REL.out wa hbwa HM.out)
            clear REL hbwa
            go_wp2_with fail
            go_roundg (4 - (k + 1))
            case measure => omega
            case rel => exact ⟨k + 1, hkn, rfl, by first | exact HRL.out.1 | (rw [show (((k + 1 : Nat)) : Int) = (k : Int) + 1 by omega]; exact HRL.out.1) | (rw [show (((k + 1 : Nat)) : Int) - 1 = (k : Int) by omega]; exact HRL.out.1), HRL.out.2⟩
          · have hqn : (f == ([] : List UInt8)) = false := beq_eq_false_iff_ne.2 he
            have hqs : (f == s) = false := beq_eq_false_iff_ne.2 (fun h => hm ⟨he, h⟩)
            clear hm he
            go_wp2_with fail
            refine (HFA.out _ (Below.refl _ _)).mono ?_
            rintro e wa ⟨rfl, hbwa⟩
            replace e0 := (hbwa.cell (p := ⟨w1.heap.size, 0, none⟩) hltr).trans e0
            replace e1 := (hbwa.cell (p := ⟨w1.heap.size, 1, none⟩) hltr).trans e1
            replace e2 := (hbwa.cell (p := ⟨w1.heap.size, 2, none⟩) hltr).trans e2
            replace e3 := (hbwa.cell (p := ⟨w1.heap.size, 3, none⟩) hltr).trans e3
            replace e4 := (hbwa.cell (p := ⟨w1.heap.size, 4, none⟩) hltr).trans e4
            replace e5 := (hbwa.cell (p := ⟨w1.heap.size, 5, none⟩) hltr).trans e5
            replace e6 := (hbwa.cell (p := ⟨w1.heap.size, 6, none⟩) hltr).trans e6
            have hltwa : w1.heap.size < wa.heap.size := Nat.lt_of_lt_of_le hltr hbwa.size
            go_wp2_with fail
            refine (HFA.out _ hbwa).mono ?_
            rintro e wb ⟨rfl, hbwb⟩
            replace e0 := (hbwb.cell (p := ⟨w1.heap.size, 0, none⟩) hltwa).trans e0
            replace e1 := (hbwb.cell (p := ⟨w1.heap.size, 1, none⟩) hltwa).trans e1
            replace e2 := (hbwb.cell (p := ⟨w1.heap.size, 2, none⟩) hltwa).trans e2
            replace e3 := (hbwb.cell (p := ⟨w1.heap.size, 3, none⟩) hltwa).trans e3
            replace e4 := (hbwb.cell (p := ⟨w1.heap.size, 4, none⟩) hltwa).trans e4
            replace e5 := (hbwb.cell (p := ⟨w1.heap.size, 5, none⟩) hltwa).trans e5
            replace e6 := (hbwb.cell (p := ⟨w1.heap.size, 6, none⟩) hltwa).trans e6
            have hltwb : w1.heap.size < wb.heap.size := Nat.lt_of_lt_of_le hltwa hbwb.size
            have hbx := hbwa.trans (hbwb.mono hbwa.size)
            have f0 := row_frozen (row_on HPr.out hbx) 0
            have HRL := Lib.hid (REL.out wb hbx HM.out)
            clear REL hbwa hbwb hbx
            go_wp2_with fail
            go_roundg (4 - (k + 1))
            case measure => omega
            case rel => exact ⟨k + 1, hkn, rfl, by first | exact HRL.out.1 | (rw [show (((k + 1 : Nat)) : Int) = (k : Int) + 1 by omega]; exact HRL.out.1) | (rw [show (((k + 1 : Nat)) : Int) - 1 = (k : Int) by omega]; exact HRL.out.1), HRL.out.2⟩
      · obtain rfl : k = 4 := by omega
        have HNO : Hid (¬ ∃ k p, wordFits plWords s k p) := by
          show ¬ _
          rintro ⟨k', p', hf⟩
          obtain ⟨⟨hk', hka⟩, hp⟩ := (HIS.out k' p').1 hf
          cases ok with
          | false => exact (HNOF.out rfl).2 ⟨p', hp⟩
          | true =>
            have hpp := ptFits_inj hp (HFIT.out rfl)
            subst hpp
            exact HNr.out k' hk' ((fmtWord_fits hp.1).2 ⟨hf, ⟨hp.1, rfl⟩⟩)
        have e0 : wr.cell? ⟨w1.heap.size, 0, none⟩ = some (.int .i64 4) := row_cell HPr.out 0
        have r0 := row_cell HRr.out 0
        have f0 := row_frozen HRr.out 0
        have r1 := row_cell HRr.out 1
        have f1 := row_frozen HRr.out 1
        have r2 := row_cell HRr.out 2
        have f2 := row_frozen HRr.out 2
        have r3 := row_cell HRr.out 3
        have f3 := row_frozen HRr.out 3
        have r4 := row_cell HRr.out 4
        have f4 := row_frozen HRr.out 4
        have r5 := row_cell HRr.out 5
        have f5 := row_frozen HRr.out 5
        have r6 := row_cell HRr.out 6
        have f6 := row_frozen HRr.out 6
        simp only [List.getElem?_toArray, List.getElem?_cons_zero, List.getElem?_cons_succ] at r0 r1 r2 r3 r4 r5 r6
        have HRZ := Lib.hid (row_set (row_set (row_set (row_set (row_set (row_set (row_set HRr.out 0 (.int .i64 0)) 1 (.bool false)) 2 (.slice none 0 0)) 3 (.slice none 0 0)) 4 (.bool false)) 5 (.slice none 0 0)) 6 (.slice none 0 0))
        have HBZ := Lib.hid (((((((HBr.out.setCell (p := ⟨w.heap.size, 0, none⟩) (Nat.le_refl _) (.int .i64 0)).setCell (p := ⟨w.heap.size, 1, none⟩) (Nat.le_refl _) (.bool false)).setCell (p := ⟨w.heap.size, 2, none⟩) (Nat.le_refl _) (.slice none 0 0)).setCell (p := ⟨w.heap.size, 3, none⟩) (Nat.le_refl _) (.slice none 0 0)).setCell (p := ⟨w.heap.size, 4, none⟩) (Nat.le_refl _) (.bool false)).setCell (p := ⟨w.heap.size, 5, none⟩) (Nat.le_refl _) (.slice none 0 0)).setCell (p := ⟨w.heap.size, 6, none⟩) (Nat.le_refl _) (.slice none 0 0))
        clear HNr HIS HFIT HNOF HPr HRr HBr HVr HFr HSX HSY
        go_wp2_with fail
        refine bodyPost_ret (results_row_tmp rfl _ _ w.heap.size 30 _ (0, 0) _ rfl HRZ.out Tryz.underlying30 rfl (by kernel_rfl)) rfl ?_
        exact ⟨HBZ.out, .inr ⟨HNO.out, rfl⟩⟩
  · have HNO := Lib.hid (show ¬ ∃ k p, wordFits plWords s k p from fun ⟨k, p, hp⟩ => h2 ⟨_, _, wordFits_split plWords_no hp⟩)
    have hne : (split1 32 s).length ≠ 2 := by
      intro h
      match hs : split1 32 s, h with
      | [a, b], _ => exact h2 ⟨a, b, hs⟩
    clear h2
    go_enter Tryz.func7, Tryz.ntmps7
    go_wp2_with fail
    refine HSP.out.mono ?_
    rintro e w1 ⟨v1, rfl, hown, hbs⟩
    obtain ⟨pv, cv, rfl, h1, h2⟩ := hown.form
    generalize (split1 32 s).length = L at *
    have hL : (((L : Int) != 2)) = true := by rw [bne_iff_ne]; omega
    have hrow4 := row_on hrow1 hbs
    have hbw4 := hb1.trans (hbs.mono hb1.size)
    have e0 := row_cell hrow4 0
    have f0 := row_frozen hrow4 0
    have e1 := row_cell hrow4 1
    have f1 := row_frozen hrow4 1
    have e2 := row_cell hrow4 2
    have f2 := row_frozen hrow4 2
    have e3 := row_cell hrow4 3
    have f3 := row_frozen hrow4 3
    have e4 := row_cell hrow4 4
    have f4 := row_frozen hrow4 4
    have e5 := row_cell hrow4 5
    have f5 := row_frozen hrow4 5
    have e6 := row_cell hrow4 6
    have f6 := row_frozen hrow4 6
    simp only [List.getElem?_toArray, List.getElem?_cons_zero, List.getElem?_cons_succ] at e0 e1 e2 e3 e4 e5 e6
    have HRZ := Lib.hid (row_set (row_set (row_set (row_set (row_set (row_set (row_set hrow4 0 (.int .i64 0)) 1 (.bool false)) 2 (.slice none 0 0)) 3 (.slice none 0 0)) 4 (.bool false)) 5 (.slice none 0 0)) 6 (.slice none 0 0))
    have HBZ := Lib.hid (((((((hbw4.setCell (p := ⟨w.heap.size, 0, none⟩) (Nat.le_refl _) (.int .i64 0)).setCell (p := ⟨w.heap.size, 1, none⟩) (Nat.le_refl _) (.bool false)).setCell (p := ⟨w.heap.size, 2, none⟩) (Nat.le_refl _) (.slice none 0 0)).setCell (p := ⟨w.heap.size, 3, none⟩) (Nat.le_refl _) (.slice none 0 0)).setCell (p := ⟨w.heap.size, 4, none⟩) (Nat.le_refl _) (.bool false)).setCell (p := ⟨w.heap.size, 5, none⟩) (Nat.le_refl _) (.slice none 0 0)).setCell (p := ⟨w.heap.size, 6, none⟩) (Nat.le_refl _) (.slice none 0 0))
    clear hrow4 hbw4 hrow1 hb1 hbs HSP hown hsz
    go_wp2_with fail
    refine bodyPost_ret (results_row_tmp rfl _ _ w.heap.size 30 _ (0, 0) _ rfl HRZ.out Tryz.underlying30 rfl (by kernel_rfl)) rfl ?_
    exact ⟨HBZ.out, .inr ⟨HNO.out, rfl⟩⟩

set_option maxHeartbeats 2000000 in
set_option maxRecDepth 100000 in
theorem sParseStep_any (s : List UInt8) (w : World) (hl : s.length ≤ 2000000) :
    Calls Tryz.prog 12 #[(Value.string ⟨(s).toArray⟩)] w (HeadPost stWords (-1) s w) := by
  have hb1 : Below w.heap.size w (w.alloc (.cells #[.int .i64 0, .bool false, .slice none 0 0, .slice none 0 0, .bool false, .slice none 0 0, .slice none 0 0] 37)) := (Below.refl _ _).alloc (Nat.le_refl _) _
  have hrow1 := row_new w #[.int .i64 0, .bool false, .slice none 0 0, .slice none 0 0, .bool false, .slice none 0 0, .slice none 0 0] 37
  have hsz : w.heap.size < (w.alloc (.cells #[.int .i64 0, .bool false, .slice none 0 0, .slice none 0 0, .bool false, .slice none 0 0, .slice none 0 0] 37)).heap.size := by simp
  have HSP := Lib.hid (SplitAny_any s 32 (w.alloc (.cells #[.int .i64 0, .bool false, .slice none 0 0, .slice none 0 0, .bool false, .slice none 0 0, .slice none 0 0] 37)) (by omega))
  by_cases h2 : ∃ a b, split1 32 s = [a, b]
  · obtain ⟨a, b, hspl⟩ := h2
    obtain ⟨hs, hno, _⟩ := split_two hspl
    have HIS := Lib.hid (fun k p => hs ▸ wordFits_iff stWords_no (a := a) (b := b) hno (k := k) (p := p))
    have hlen : a.length + b.length ≤ s.length := by rw [hs, List.length_append, List.length_cons]; omega
    have HSPL := Lib.hid hspl
    have HSE := Lib.hid hs
    clear hs hspl
    go_enter Tryz.func12, Tryz.ntmps12
    go_wp2_with fail
    refine HSP.out.mono ?_
    rintro e w1 ⟨v1, rfl, hown, hbs⟩
    rw [HSPL.out] at hown
    obtain ⟨g, c, rfl, _, hg, _⟩ := hown.cell (i := 0) (by simp)
    obtain ⟨g', cg, he, hc1, _, _⟩ := hown.cell (i := 1) (by simp)
    injection he with he _ _
    injection he with he
    injection he with he _ _
    subst he
    rw [show [a, b].getD 1 [] = b from rfl] at hc1
    have hrow1' := row_on hrow1 hbs
    have hb1' := hb1.trans (hbs.mono hb1.size)
    have hlo : w.heap.size < w1.heap.size := Nat.lt_of_lt_of_le hsz hbs.size
    have hbP : Below w1.heap.size w1 (w1.alloc (.cells #[.int .i64 0, .bool false, .slice none 0 0, .slice none 0 0, .bool false, .slice none 0 0, .slice none 0 0] 37)) := (Below.refl _ _).alloc (Nat.le_refl _) _
    have hrowP := row_new w1 #[.int .i64 0, .bool false, .slice none 0 0, .slice none 0 0, .bool false, .slice none 0 0, .slice none 0 0] 37
    have hrowR := row_on hrow1' hbP
    have hbw := hb1'.trans (hbP.mono hb1'.size)
    have hlt : w1.heap.size < (w1.alloc (.cells #[.int .i64 0, .bool false, .slice none 0 0, .slice none 0 0, .bool false, .slice none 0 0, .slice none 0 0] 37)).heap.size := by simp
    have HP := Lib.hid (sParsePoint_any b (w1.alloc (.cells #[.int .i64 0, .bool false, .slice none 0 0, .slice none 0 0, .bool false, .slice none 0 0, .slice none 0 0] 37)) (by omega))
    clear hown HSP hb1 hrow1 hsz hbs hrow1' hb1' hbP HSPL
    go_wp2_with fail
    refine HP.out.mono ?_
    rintro e w2 hback
    obtain ⟨ok, p, p1, n1, c1, p2, n2, c2, q1, m1, d1, q2, m2, d2, rfl, hb2, hyes, hno⟩ := hback.back
    have hsm : p.small := by
      cases ok with
      | true => exact Pt.ok.small ⟨(hyes rfl).1.1.1.1, (hyes rfl).1.1.2.1⟩
      | false =>
        rw [(hno rfl).1]
        refine ⟨⟨?_, ?_⟩, ⟨?_, ?_⟩⟩ <;> (show (limbs 0).length ≤ 60; rw [limbs_zero]; exact Nat.zero_le _)
    have hfit : ok = true → ptFits b p := fun h => (hyes h).1
    have hnofit : ok = false → ¬ p.ok ∧ ¬ ∃ p, ptFits b p := fun h => ⟨by rw [(hno h).1]; exact zeroPtD_no, (hno h).2.1⟩
    have hval : PtV w2 (w1.heap.size + 1) w2.heap.size (.agg #[.bool p.x.neg, .slice p1 n1 c1, .slice p2 n2 c2, .bool p.y.neg, .slice q1 m1 d1, .slice q2 m2 d2]) p := by
      cases ok with
      | true => exact (hyes rfl).2.val.wide (by simp) (Nat.le_refl _)
      | false =>
        have h0 := (hno rfl).1
        subst h0
        exact (hno rfl).2.2.lift
    have hfr : ok = true → FreshPt w2 (w1.alloc (.cells #[.int .i64 0, .bool false, .slice none 0 0, .slice none 0 0, .bool false, .slice none 0 0, .slice none 0 0] 37)).heap.size w2.heap.size (.agg #[.bool p.x.neg, .slice p1 n1 c1, .slice p2 n2 c2, .bool p.y.neg, .slice q1 m1 d1, .slice q2 m2 d2]) p := fun h => (hyes h).2
    have hrowP2 := row_on hrowP hb2
    have hrowR2 := row_on hrowR hb2
    have hbw2 := hbw.trans (hb2.mono hbw.size)
    have hltP : w1.heap.size < w2.heap.size := Nat.lt_of_lt_of_le hlt hb2.size
    have hlow : (w1.alloc (.cells #[.int .i64 0, .bool false, .slice none 0 0, .slice none 0 0, .bool false, .slice none 0 0, .slice none 0 0] 37)).heap.size = w1.heap.size + 1 := by simp
    rw [hlow] at hfr
    have HVAL := Lib.hid hval
    have HFR := Lib.hid hfr
    have HFIT := Lib.hid hfit
    have HNOF := Lib.hid hnofit
    have HBW := Lib.hid hbw2
    clear hback HP hb2 hyes hno hval hfr hfit hnofit hrowP hrowR hbw hlow hbw2 hlt hc1
    generalize hsx : p.x.neg = sx at *
    generalize hsy : p.y.neg = sy at *
    have HSX := Lib.hid hsx
    have HSY := Lib.hid hsy
    clear hsx hsy
    have e0 := row_cell hrowP2 0
    have f0 := row_frozen hrowP2 0
    have e1 := row_cell hrowP2 1
    have f1 := row_frozen hrowP2 1
    have e2 := row_cell hrowP2 2
    have f2 := row_frozen hrowP2 2
    have e3 := row_cell hrowP2 3
    have f3 := row_frozen hrowP2 3
    have e4 := row_cell hrowP2 4
    have f4 := row_frozen hrowP2 4
    have e5 := row_cell hrowP2 5
    have f5 := row_frozen hrowP2 5
    have e6 := row_cell hrowP2 6
    have f6 := row_frozen hrowP2 6
    simp only [List.getElem?_toArray, List.getElem?_cons_zero, List.getElem?_cons_succ] at e0 e1 e2 e3 e4 e5 e6
    have HRP := Lib.hid (row_set (row_set (row_set (row_set (row_set (row_set (row_set hrowP2 1 (.bool sx)) 2 (.slice p1 n1 c1)) 3 (.slice p2 n2 c2)) 4 (.bool sy)) 5 (.slice q1 m1 d1)) 6 (.slice q2 m2 d2)) 0 (.int .i64 (-1)))
    have HPS := Lib.hid hrowR2
    clear hrowR2 hrowP2
    go_wp2_with fail
    go_loopg [] 3 (fun G wr => ∃ k : Nat, k ≤ 3 ∧ G = 3 - k ∧ Hid (wr.heap[w1.heap.size]? = some (.cells #[.int .i64 ((k : Int) - 1), .bool sx, .slice p1 n1 c1, .slice p2 n2 c2, .bool sy, .slice q1 m1 d1, .slice q2 m2 d2] 37)) ∧ Hid (wr.heap[w.heap.size]? = some (.cells #[.int .i64 0, .bool false, .slice none 0 0, .slice none 0 0, .bool false, .slice none 0 0, .slice none 0 0] 37)) ∧ Hid (Below w.heap.size w wr) ∧ w1.heap.size < wr.heap.size ∧ Hid (PtV wr (w1.heap.size + 1) wr.heap.size (.agg #[.bool sx, .slice p1 n1 c1, .slice p2 n2 c2, .bool sy, .slice q1 m1 d1, .slice q2 m2 d2]) p) ∧ Hid (ok = true → FreshPt wr (w1.heap.size + 1) wr.heap.size (.agg #[.bool sx, .slice p1 n1 c1, .slice p2 n2 c2, .bool sy, .slice q1 m1 d1, .slice q2 m2 d2]) p) ∧ Hid (∀ j, j < k → ¬ (fmtWord stWords j p ≠ [] ∧ fmtWord stWords j p = s)))
    case atStart =>
      have hne : w.heap.size ≠ w1.heap.size := Nat.ne_of_lt hlo
      refine ⟨0, Nat.zero_le _, rfl, HRP.out, (row_other (row_other (row_other (row_other (row_other (row_other (row_other HPS.out (p := ⟨w1.heap.size, 1, none⟩) hne (.bool sx)) (p := ⟨w1.heap.size, 2, none⟩) hne (.slice p1 n1 c1)) (p := ⟨w1.heap.size, 3, none⟩) hne (.slice p2 n2 c2)) (p := ⟨w1.heap.size, 4, none⟩) hne (.bool sy)) (p := ⟨w1.heap.size, 5, none⟩) hne (.slice q1 m1 d1)) (p := ⟨w1.heap.size, 6, none⟩) hne (.slice q2 m2 d2)) (p := ⟨w1.heap.size, 0, none⟩) hne (.int .i64 (-1))), (((((((HBW.out.setCell (p := ⟨w1.heap.size, 1, none⟩) (Nat.le_of_lt hlo) (.bool sx)).setCell (p := ⟨w1.heap.size, 2, none⟩) (Nat.le_of_lt hlo) (.slice p1 n1 c1)).setCell (p := ⟨w1.heap.size, 3, none⟩) (Nat.le_of_lt hlo) (.slice p2 n2 c2)).setCell (p := ⟨w1.heap.size, 4, none⟩) (Nat.le_of_lt hlo) (.bool sy)).setCell (p := ⟨w1.heap.size, 5, none⟩) (Nat.le_of_lt hlo) (.slice q1 m1 d1)).setCell (p := ⟨w1.heap.size, 6, none⟩) (Nat.le_of_lt hlo) (.slice q2 m2 d2)).setCell (p := ⟨w1.heap.size, 0, none⟩) (Nat.le_of_lt hlo) (.int .i64 (-1))), ?_, ?_, ?_, fun j hj => absurd hj (Nat.not_lt_zero _)⟩
      · simp only [size_setCell]; exact hltP
      · simp only [size_setCell]; exact (((((((HVAL.out.set (q := ⟨w1.heap.size, 1, none⟩) (Nat.lt_succ_self _) (.bool sx)).set (q := ⟨w1.heap.size, 2, none⟩) (Nat.lt_succ_self _) (.slice p1 n1 c1)).set (q := ⟨w1.heap.size, 3, none⟩) (Nat.lt_succ_self _) (.slice p2 n2 c2)).set (q := ⟨w1.heap.size, 4, none⟩) (Nat.lt_succ_self _) (.bool sy)).set (q := ⟨w1.heap.size, 5, none⟩) (Nat.lt_succ_self _) (.slice q1 m1 d1)).set (q := ⟨w1.heap.size, 6, none⟩) (Nat.lt_succ_self _) (.slice q2 m2 d2)).set (q := ⟨w1.heap.size, 0, none⟩) (Nat.lt_succ_self _) (.int .i64 (-1)))
      · simp only [size_setCell]; exact fun h => ((((((((HFR.out h).set (q := ⟨w1.heap.size, 1, none⟩) (Nat.lt_succ_self _) (.bool sx)).set (q := ⟨w1.heap.size, 2, none⟩) (Nat.lt_succ_self _) (.slice p1 n1 c1)).set (q := ⟨w1.heap.size, 3, none⟩) (Nat.lt_succ_self _) (.slice p2 n2 c2)).set (q := ⟨w1.heap.size, 4, none⟩) (Nat.lt_succ_self _) (.bool sy)).set (q := ⟨w1.heap.size, 5, none⟩) (Nat.lt_succ_self _) (.slice q1 m1 d1)).set (q := ⟨w1.heap.size, 6, none⟩) (Nat.lt_succ_self _) (.slice q2 m2 d2)).set (q := ⟨w1.heap.size, 0, none⟩) (Nat.lt_succ_self _) (.int .i64 (-1)))
    case round =>
      obtain ⟨k, hk, rfl, HPr, HRr, HBr, hltr, HVr, HFr, HNr⟩ := hrel
      clear e0 e1 e2 e3 e4 e5 e6 f0 f1 f2 f3 f4 f5 f6 HPS HRP HVAL HFR HBW
      by_cases hkn : k < 3
      · have HFA := Lib.hid (show ∀ W', Below wr.heap.size wr W' → Calls Tryz.prog 39 #[.agg #[.int .i64 ((k : Int) - 1), .bool sx, .slice p1 n1 c1, .slice p2 n2 c2, .bool sy, .slice q1 m1 d1, .slice q2 m2 d2]] W' fun e w' => e = .returned (Value.string ⟨(fmtWord stWords k p).toArray⟩) ∧ Below W'.heap.size W' w' from fun W' hW => by
          have := sFormatStep_any k hkn p (.slice p1 n1 c1) (.slice p2 n2 c2) (.slice q1 m1 d1) (.slice q2 m2 d2) W' (by rw [HSX.out, HSY.out]; exact ((HVr.out.on hW).wide (Nat.zero_le _) (Nat.le_refl _))) hsm
          rw [HSX.out, HSY.out] at this
          exact this)
        have REL := Lib.hid (show ∀ wx, Below wr.heap.size wr wx → (¬ (fmtWord stWords k p ≠ [] ∧ fmtWord stWords k p = s)) → Hid ((wx.setCell ⟨w1.heap.size, 0, none⟩ (.int .i64 (k : Int))).heap[w1.heap.size]? = some (.cells #[.int .i64 (k : Int), .bool sx, .slice p1 n1 c1, .slice p2 n2 c2, .bool sy, .slice q1 m1 d1, .slice q2 m2 d2] 37)) ∧ Hid ((wx.setCell ⟨w1.heap.size, 0, none⟩ (.int .i64 (k : Int))).heap[w.heap.size]? = some (.cells #[.int .i64 0, .bool false, .slice none 0 0, .slice none 0 0, .bool false, .slice none 0 0, .slice none 0 0] 37)) ∧ Hid (Below w.heap.size w (wx.setCell ⟨w1.heap.size, 0, none⟩ (.int .i64 (k : Int)))) ∧ w1.heap.size < (wx.setCell ⟨w1.heap.size, 0, none⟩ (.int .i64 (k : Int))).heap.size ∧ Hid (PtV (wx.setCell ⟨w1.heap.size, 0, none⟩ (.int .i64 (k : Int))) (w1.heap.size + 1) (wx.setCell ⟨w1.heap.size, 0, none⟩ (.int .i64 (k : Int))).heap.size (.agg #[.bool sx, .slice p1 n1 c1, .slice p2 n2 c2, .bool sy, .slice q1 m1 d1, .slice q2 m2 d2]) p) ∧ Hid (ok = true → FreshPt (wx.setCell ⟨w1.heap.size, 0, none⟩ (.int .i64 (k : Int))) (w1.heap.size + 1) (wx.setCell ⟨w1.heap.size, 0, none⟩ (.int .i64 (k : Int))).heap.size (.agg #[.bool sx, .slice p1 n1 c1, .slice p2 n2 c2, .bool sy, .slice q1 m1 d1, .slice q2 m2 d2]) p) ∧ Hid (∀ j, j < k + 1 → ¬ (fmtWord stWords j p ≠ [] ∧ fmtWord stWords j p = s)) from fun wx hx hnm => by
          have hx1 := hx.size
          have hne : w.heap.size ≠ w1.heap.size := Nat.ne_of_lt hlo
          refine ⟨row_set (row_on HPr.out hx) 0 _, row_other (row_on HRr.out hx) (p := ⟨w1.heap.size, 0, none⟩) hne _, (HBr.out.trans (hx.mono HBr.out.size)).setCell (p := ⟨w1.heap.size, 0, none⟩) (Nat.le_of_lt hlo) _, ?_, ?_, ?_, ?_⟩
          · simp only [size_setCell]; omega
          · simp only [size_setCell]; exact (HVr.out.on hx).set (q := ⟨w1.heap.size, 0, none⟩) (Nat.lt_succ_self _) _
          · simp only [size_setCell]; exact fun h => (((HFr.out h).below hx).wide (Nat.le_refl _) hx.size).set (q := ⟨w1.heap.size, 0, none⟩) (Nat.lt_succ_self _) _
          · intro j hj
            rcases Nat.lt_or_ge j k with h | h
            · exact HNr.out j h
            · obtain rfl : j = k := by omega
              exact hnm)
        have HOKF := Lib.hid (show fmtWord stWords k p ≠ [] → ok = true from fun h => by
          cases ok with
          | true => rfl
          | false => exact absurd (fmtWord_ne h).2 (HNOF.out rfl).1)
        generalize hf : fmtWord stWords k p = f at HFA REL HOKF
        have HFW := Lib.hid hf
        clear hf
        have e0 := row_cell HPr.out 0
        have e1 := row_cell HPr.out 1
        have e2 := row_cell HPr.out 2
        have e3 := row_cell HPr.out 3
        have e4 := row_cell HPr.out 4
        have e5 := row_cell HPr.out 5
        have e6 := row_cell HPr.out 6
        simp only [List.getElem?_toArray, List.getElem?_cons_zero, List.getElem?_cons_succ] at e0 e1 e2 e3 e4 e5 e6
        have hb7 : decide ((k : Int) - 1 < 2) = true := decide_eq_true (by omega)
        have hb8 : decide ((k : Int) < 3) = true := decide_eq_true (by omega)
        by_cases hm : f ≠ [] ∧ f = s
        · obtain ⟨hne, rfl⟩ := hm
          have hsn : (f == ([] : List UInt8)) = false := beq_eq_false_iff_ne.2 hne
          have HNE := Lib.hid hne
          clear hne REL
          go_wp2_with fail
          refine (HFA.out _ (Below.refl _ _)).mono ?_
          rintro e wa ⟨rfl, hbwa⟩
          replace e0 := (hbwa.cell (p := ⟨w1.heap.size, 0, none⟩) hltr).trans e0
          replace e1 := (hbwa.cell (p := ⟨w1.heap.size, 1, none⟩) hltr).trans e1
          replace e2 := (hbwa.cell (p := ⟨w1.heap.size, 2, none⟩) hltr).trans e2
          replace e3 := (hbwa.cell (p := ⟨w1.heap.size, 3, none⟩) hltr).trans e3
          replace e4 := (hbwa.cell (p := ⟨w1.heap.size, 4, none⟩) hltr).trans e4
          replace e5 := (hbwa.cell (p := ⟨w1.heap.size, 5, none⟩) hltr).trans e5
          replace e6 := (hbwa.cell (p := ⟨w1.heap.size, 6, none⟩) hltr).trans e6
          have hltwa : w1.heap.size < wa.heap.size := Nat.lt_of_lt_of_le hltr hbwa.size
          go_wp2_with fail
          refine (HFA.out _ hbwa).mono ?_
          rintro e wb ⟨rfl, hbwb⟩
          replace e0 := (hbwb.cell (p := ⟨w1.heap.size, 0, none⟩) hltwa).trans e0
          replace e1 := (hbwb.cell (p := ⟨w1.heap.size, 1, none⟩) hltwa).trans e1
          replace e2 := (hbwb.cell (p := ⟨w1.heap.size, 2, none⟩) hltwa).trans e2
          replace e3 := (hbwb.cell (p := ⟨w1.heap.size, 3, none⟩) hltwa).trans e3
          replace e4 := (hbwb.cell (p := ⟨w1.heap.size, 4, none⟩) hltwa).trans e4
          replace e5 := (hbwb.cell (p := ⟨w1.heap.size, 5, none⟩) hltwa).trans e5
          replace e6 := (hbwb.cell (p := ⟨w1.heap.size, 6, none⟩) hltwa).trans e6
          have hltwb : w1.heap.size < wb.heap.size := Nat.lt_of_lt_of_le hltwa hbwb.size
          have hbx := hbwa.trans (hbwb.mono hbwa.size)
          have hR := row_on HRr.out hbx
          have hBW := HBr.out.trans (hbx.mono HBr.out.size)
          have r0 := row_cell hR 0
          have f0 := row_frozen hR 0
          have r1 := row_cell hR 1
          have f1 := row_frozen hR 1
          have r2 := row_cell hR 2
          have f2 := row_frozen hR 2
          have r3 := row_cell hR 3
          have f3 := row_frozen hR 3
          have r4 := row_cell hR 4
          have f4 := row_frozen hR 4
          have r5 := row_cell hR 5
          have f5 := row_frozen hR 5
          have r6 := row_cell hR 6
          have f6 := row_frozen hR 6
          simp only [List.getElem?_toArray, List.getElem?_cons_zero, List.getElem?_cons_succ] at r0 r1 r2 r3 r4 r5 r6
          have HRV := Lib.hid (row_set (row_set (row_set (row_set (row_set (row_set (row_set hR 0 (.int .i64 ((k : Int) - 1))) 1 (.bool sx)) 2 (.slice p1 n1 c1)) 3 (.slice p2 n2 c2)) 4 (.bool sy)) 5 (.slice q1 m1 d1)) 6 (.slice q2 m2 d2))
          have HBV := Lib.hid (((((((hBW.setCell (p := ⟨w.heap.size, 0, none⟩) (Nat.le_refl _) (.int .i64 ((k : Int) - 1))).setCell (p := ⟨w.heap.size, 1, none⟩) (Nat.le_refl _) (.bool sx)).setCell (p := ⟨w.heap.size, 2, none⟩) (Nat.le_refl _) (.slice p1 n1 c1)).setCell (p := ⟨w.heap.size, 3, none⟩) (Nat.le_refl _) (.slice p2 n2 c2)).setCell (p := ⟨w.heap.size, 4, none⟩) (Nat.le_refl _) (.bool sy)).setCell (p := ⟨w.heap.size, 5, none⟩) (Nat.le_refl _) (.slice q1 m1 d1)).setCell (p := ⟨w.heap.size, 6, none⟩) (Nat.le_refl _) (.slice q2 m2 d2))
          have HX := Lib.hid hbx
          clear hR hBW hbx hbwa hbwb HFA
          go_wp2_with fail
          refine bodyPost_ret (results_row_tmp rfl _ _ w.heap.size 37 _ (0, 0) _ rfl HRV.out Tryz.underlying37 rfl (by kernel_rfl)) rfl ?_
          obtain rfl := HSX.out
          obtain rfl := HSY.out
          have hok := HOKF.out HNE.out
          have hA := (((((((((HFr.out hok).below HX.out).set (q := ⟨w.heap.size, 0, none⟩) (Nat.lt_succ_of_lt hlo) (.int .i64 ((k : Int) - 1))).set (q := ⟨w.heap.size, 1, none⟩) (Nat.lt_succ_of_lt hlo) (.bool p.x.neg)).set (q := ⟨w.heap.size, 2, none⟩) (Nat.lt_succ_of_lt hlo) (.slice p1 n1 c1)).set (q := ⟨w.heap.size, 3, none⟩) (Nat.lt_succ_of_lt hlo) (.slice p2 n2 c2)).set (q := ⟨w.heap.size, 4, none⟩) (Nat.lt_succ_of_lt hlo) (.bool p.y.neg)).set (q := ⟨w.heap.size, 5, none⟩) (Nat.lt_succ_of_lt hlo) (.slice q1 m1 d1)).set (q := ⟨w.heap.size, 6, none⟩) (Nat.lt_succ_of_lt hlo) (.slice q2 m2 d2))
          refine ⟨HBV.out, .inl ⟨k, p, _, _, _, _, ((fmtWord_fits (HFIT.out hok).1).1 (by rw [HFW.out]; exact ⟨HNE.out, rfl⟩)).1, ?_, hA.wide (by omega) (by simp only [size_setCell]; exact HX.out.size)⟩⟩
          first | rfl | (congr 1)
        · have HM := Lib.hid hm
          by_cases he : f = []
          · subst he
            clear hm
            go_wp2_with fail
            refine (HFA.out _ (Below.refl _ _)).mono ?_
            rintro e wa ⟨rfl, hbwa⟩
            replace e0 := (hbwa.cell (p := ⟨w1.heap.size, 0, none⟩) hltr).trans e0
            replace e1 := (hbwa.cell (p := ⟨w1.heap.size, 1, none⟩) hltr).trans e1
            replace e2 := (hbwa.cell (p := ⟨w1.heap.size, 2, none⟩) hltr).trans e2
            replace e3 := (hbwa.cell (p := ⟨w1.heap.size, 3, none⟩) hltr).trans e3
            replace e4 := (hbwa.cell (p := ⟨w1.heap.size, 4, none⟩) hltr).trans e4
            replace e5 := (hbwa.cell (p := ⟨w1.heap.size, 5, none⟩) hltr).trans e5
            replace e6 := (hbwa.cell (p := ⟨w1.heap.size, 6, none⟩) hltr).trans e6
            have hltwa : w1.heap.size < wa.heap.size := Nat.lt_of_lt_of_le hltr hbwa.size
            have f0 := row_frozen (row_on HPr.out hbwa) 0
            have HRL := Lib.hid (REL.out wa hbwa HM.out)
            clear REL hbwa
            go_wp2_with fail
            go_roundg (3 - (k + 1))
            case measure => omega
            case rel => exact ⟨k + 1, hkn, rfl, by first | exact HRL.out.1 | (rw [show (((k + 1 : Nat)) : Int) = (k : Int) + 1 by omega]; exact HRL.out.1) | (rw [show (((k + 1 : Nat)) : Int) - 1 = (k : Int) by omega]; exact HRL.out.1), HRL.out.2⟩
          · have hqn : (f == ([] : List UInt8)) = false := beq_eq_false_iff_ne.2 he
            have hqs : (f == s) = false := beq_eq_false_iff_ne.2 (fun h => hm ⟨he, h⟩)
            clear hm he
            go_wp2_with fail
            refine (HFA.out _ (Below.refl _ _)).mono ?_
            rintro e wa ⟨rfl, hbwa⟩
            replace e0 := (hbwa.cell (p := ⟨w1.heap.size, 0, none⟩) hltr).trans e0
            replace e1 := (hbwa.cell (p := ⟨w1.heap.size, 1, none⟩) hltr).trans e1
            replace e2 := (hbwa.cell (p := ⟨w1.heap.size, 2, none⟩) hltr).trans e2
            replace e3 := (hbwa.cell (p := ⟨w1.heap.size, 3, none⟩) hltr).trans e3
            replace e4 := (hbwa.cell (p := ⟨w1.heap.size, 4, none⟩) hltr).trans e4
            replace e5 := (hbwa.cell (p := ⟨w1.heap.size, 5, none⟩) hltr).trans e5
            replace e6 := (hbwa.cell (p := ⟨w1.heap.size, 6, none⟩) hltr).trans e6
            have hltwa : w1.heap.size < wa.heap.size := Nat.lt_of_lt_of_le hltr hbwa.size
            go_wp2_with fail
            refine (HFA.out _ hbwa).mono ?_
            rintro e wb ⟨rfl, hbwb⟩
            replace e0 := (hbwb.cell (p := ⟨w1.heap.size, 0, none⟩) hltwa).trans e0
            replace e1 := (hbwb.cell (p := ⟨w1.heap.size, 1, none⟩) hltwa).trans e1
            replace e2 := (hbwb.cell (p := ⟨w1.heap.size, 2, none⟩) hltwa).trans e2
            replace e3 := (hbwb.cell (p := ⟨w1.heap.size, 3, none⟩) hltwa).trans e3
            replace e4 := (hbwb.cell (p := ⟨w1.heap.size, 4, none⟩) hltwa).trans e4
            replace e5 := (hbwb.cell (p := ⟨w1.heap.size, 5, none⟩) hltwa).trans e5
            replace e6 := (hbwb.cell (p := ⟨w1.heap.size, 6, none⟩) hltwa).trans e6
            have hltwb : w1.heap.size < wb.heap.size := Nat.lt_of_lt_of_le hltwa hbwb.size
            have hbx := hbwa.trans (hbwb.mono hbwa.size)
            have f0 := row_frozen (row_on HPr.out hbx) 0
            have HRL := Lib.hid (REL.out wb hbx HM.out)
            clear REL hbwa hbwb hbx
            go_wp2_with fail
            go_roundg (3 - (k + 1))
            case measure => omega
            case rel => exact ⟨k + 1, hkn, rfl, by first | exact HRL.out.1 | (rw [show (((k + 1 : Nat)) : Int) = (k : Int) + 1 by omega]; exact HRL.out.1) | (rw [show (((k + 1 : Nat)) : Int) - 1 = (k : Int) by omega]; exact HRL.out.1), HRL.out.2⟩
      · obtain rfl : k = 3 := by omega
        have HNO : Hid (¬ ∃ k p, wordFits stWords s k p) := by
          show ¬ _
          rintro ⟨k', p', hf⟩
          obtain ⟨⟨hk', hka⟩, hp⟩ := (HIS.out k' p').1 hf
          cases ok with
          | false => exact (HNOF.out rfl).2 ⟨p', hp⟩
          | true =>
            have hpp := ptFits_inj hp (HFIT.out rfl)
            subst hpp
            exact HNr.out k' hk' ((fmtWord_fits hp.1).2 ⟨hf, ⟨hp.1, rfl⟩⟩)
        have e0 : wr.cell? ⟨w1.heap.size, 0, none⟩ = some (.int .i64 2) := row_cell HPr.out 0
        have r0 := row_cell HRr.out 0
        have f0 := row_frozen HRr.out 0
        have r1 := row_cell HRr.out 1
        have f1 := row_frozen HRr.out 1
        have r2 := row_cell HRr.out 2
        have f2 := row_frozen HRr.out 2
        have r3 := row_cell HRr.out 3
        have f3 := row_frozen HRr.out 3
        have r4 := row_cell HRr.out 4
        have f4 := row_frozen HRr.out 4
        have r5 := row_cell HRr.out 5
        have f5 := row_frozen HRr.out 5
        have r6 := row_cell HRr.out 6
        have f6 := row_frozen HRr.out 6
        simp only [List.getElem?_toArray, List.getElem?_cons_zero, List.getElem?_cons_succ] at r0 r1 r2 r3 r4 r5 r6
        have HRZ := Lib.hid (row_set (row_set (row_set (row_set (row_set (row_set (row_set HRr.out 0 (.int .i64 0)) 1 (.bool false)) 2 (.slice none 0 0)) 3 (.slice none 0 0)) 4 (.bool false)) 5 (.slice none 0 0)) 6 (.slice none 0 0))
        have HBZ := Lib.hid (((((((HBr.out.setCell (p := ⟨w.heap.size, 0, none⟩) (Nat.le_refl _) (.int .i64 0)).setCell (p := ⟨w.heap.size, 1, none⟩) (Nat.le_refl _) (.bool false)).setCell (p := ⟨w.heap.size, 2, none⟩) (Nat.le_refl _) (.slice none 0 0)).setCell (p := ⟨w.heap.size, 3, none⟩) (Nat.le_refl _) (.slice none 0 0)).setCell (p := ⟨w.heap.size, 4, none⟩) (Nat.le_refl _) (.bool false)).setCell (p := ⟨w.heap.size, 5, none⟩) (Nat.le_refl _) (.slice none 0 0)).setCell (p := ⟨w.heap.size, 6, none⟩) (Nat.le_refl _) (.slice none 0 0))
        clear HNr HIS HFIT HNOF HPr HRr HBr HVr HFr HSX HSY
        go_wp2_with fail
        refine bodyPost_ret (results_row_tmp rfl _ _ w.heap.size 37 _ (0, 0) _ rfl HRZ.out Tryz.underlying37 rfl (by kernel_rfl)) rfl ?_
        exact ⟨HBZ.out, .inr ⟨HNO.out, rfl⟩⟩
  · have HNO := Lib.hid (show ¬ ∃ k p, wordFits stWords s k p from fun ⟨k, p, hp⟩ => h2 ⟨_, _, wordFits_split stWords_no hp⟩)
    have hne : (split1 32 s).length ≠ 2 := by
      intro h
      match hs : split1 32 s, h with
      | [a, b], _ => exact h2 ⟨a, b, hs⟩
    clear h2
    go_enter Tryz.func12, Tryz.ntmps12
    go_wp2_with fail
    refine HSP.out.mono ?_
    rintro e w1 ⟨v1, rfl, hown, hbs⟩
    obtain ⟨pv, cv, rfl, h1, h2⟩ := hown.form
    generalize (split1 32 s).length = L at *
    have hL : (((L : Int) != 2)) = true := by rw [bne_iff_ne]; omega
    have hrow4 := row_on hrow1 hbs
    have hbw4 := hb1.trans (hbs.mono hb1.size)
    have e0 := row_cell hrow4 0
    have f0 := row_frozen hrow4 0
    have e1 := row_cell hrow4 1
    have f1 := row_frozen hrow4 1
    have e2 := row_cell hrow4 2
    have f2 := row_frozen hrow4 2
    have e3 := row_cell hrow4 3
    have f3 := row_frozen hrow4 3
    have e4 := row_cell hrow4 4
    have f4 := row_frozen hrow4 4
    have e5 := row_cell hrow4 5
    have f5 := row_frozen hrow4 5
    have e6 := row_cell hrow4 6
    have f6 := row_frozen hrow4 6
    simp only [List.getElem?_toArray, List.getElem?_cons_zero, List.getElem?_cons_succ] at e0 e1 e2 e3 e4 e5 e6
    have HRZ := Lib.hid (row_set (row_set (row_set (row_set (row_set (row_set (row_set hrow4 0 (.int .i64 0)) 1 (.bool false)) 2 (.slice none 0 0)) 3 (.slice none 0 0)) 4 (.bool false)) 5 (.slice none 0 0)) 6 (.slice none 0 0))
    have HBZ := Lib.hid (((((((hbw4.setCell (p := ⟨w.heap.size, 0, none⟩) (Nat.le_refl _) (.int .i64 0)).setCell (p := ⟨w.heap.size, 1, none⟩) (Nat.le_refl _) (.bool false)).setCell (p := ⟨w.heap.size, 2, none⟩) (Nat.le_refl _) (.slice none 0 0)).setCell (p := ⟨w.heap.size, 3, none⟩) (Nat.le_refl _) (.slice none 0 0)).setCell (p := ⟨w.heap.size, 4, none⟩) (Nat.le_refl _) (.bool false)).setCell (p := ⟨w.heap.size, 5, none⟩) (Nat.le_refl _) (.slice none 0 0)).setCell (p := ⟨w.heap.size, 6, none⟩) (Nat.le_refl _) (.slice none 0 0))
    clear hrow4 hbw4 hrow1 hb1 hbs HSP hown hsz
    go_wp2_with fail
    refine bodyPost_ret (results_row_tmp rfl _ _ w.heap.size 37 _ (0, 0) _ rfl HRZ.out Tryz.underlying37 rfl (by kernel_rfl)) rfl ?_
    exact ⟨HBZ.out, .inr ⟨HNO.out, rfl⟩⟩
end Go.Proofs.YtnpfmmdekjjnjaaGreatDoor
