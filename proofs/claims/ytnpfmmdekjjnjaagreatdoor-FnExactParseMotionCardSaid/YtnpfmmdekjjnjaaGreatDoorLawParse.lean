/- The laws of ParsePlacement and ParseStep, walked. -/
import Derived.Test.YtnpfmmdekjjnjaaGreatDoorParsePl
import Derived.Test.YtnpfmmdekjjnjaaGreatDoorParsePlS
namespace Go.Proofs.YtnpfmmdekjjnjaaGreatDoor
open Go Go.RowKit Pl

/-- What reading a text gives, as data. -/
def HeadIs (ws : List (List UInt8)) (off : Int) (s : List UInt8) (ok : Bool) (z : Int) (sx sy : Bool) (l1 l2 l3 l4 : List Int) : Prop :=
  (∃ k p, wordFits ws s k p ∧ ok = true ∧ z = (k : Int) + off ∧ sx = p.x.neg ∧ sy = p.y.neg ∧ l1 = limbs p.x.num ∧ l2 = limbs p.x.den ∧ l3 = limbs p.y.num ∧ l4 = limbs p.y.den) ∨
    ((¬ ∃ k p, wordFits ws s k p) ∧ ok = false ∧ z = 0 ∧ sx = false ∧ sy = false ∧ l1 = [] ∧ l2 = [] ∧ l3 = [] ∧ l4 = [])
def oneWord (ws : List (List UInt8)) : Prop := ∀ i, i < ws.length → ∀ j, j < ws.length → ws.getD i [] = ws.getD j [] → i = j
theorem plWords_one : oneWord plWords := by
  show ∀ i, i < 4 → ∀ j, j < 4 → plWords.getD i [] = plWords.getD j [] → i = j
  decide
theorem stWords_one : oneWord stWords := by
  show ∀ i, i < 3 → ∀ j, j < 3 → stWords.getD i [] = stWords.getD j [] → i = j
  decide
theorem wordFits_inj {ws : List (List UInt8)} (h1 : noBlank ws) (h2 : oneWord ws) {s : List UInt8} {k k' : Nat} {p p' : Pt} (h : wordFits ws s k p) (h' : wordFits ws s k' p') : k = k' ∧ p = p' := by
  obtain ⟨hk, t, hs, ht⟩ := h
  obtain ⟨hk', t', hs', ht'⟩ := h'
  rw [hs] at hs'
  obtain ⟨e1, e2⟩ := append_cut hs' (h1.at hk) (h1.at hk')
  subst e2
  exact ⟨h2 k hk k' hk' e1, ptFits_inj ht ht'⟩
theorem HeadIs.inj {ws : List (List UInt8)} (h1 : noBlank ws) (h2 : oneWord ws) {off : Int} {s : List UInt8} {ok ok' : Bool} {z z' : Int} {sx sx' sy sy' : Bool} {l1 l2 l3 l4 l1' l2' l3' l4' : List Int}
    (h : HeadIs ws off s ok z sx sy l1 l2 l3 l4) (h' : HeadIs ws off s ok' z' sx' sy' l1' l2' l3' l4') : ok = ok' ∧ z = z' ∧ sx = sx' ∧ sy = sy' ∧ l1 = l1' ∧ l2 = l2' ∧ l3 = l3' ∧ l4 = l4' := by
  rcases h with ⟨k, p, hf, rfl, rfl, rfl, rfl, rfl, rfl, rfl, rfl⟩ | ⟨hn, rfl, rfl, rfl, rfl, rfl, rfl, rfl, rfl⟩ <;>
    rcases h' with ⟨k', p', hf', rfl, rfl, rfl, rfl, rfl, rfl, rfl, rfl⟩ | ⟨hn', rfl, rfl, rfl, rfl, rfl, rfl, rfl, rfl⟩
  · obtain ⟨rfl, rfl⟩ := wordFits_inj h1 h2 hf hf'
    exact ⟨rfl, rfl, rfl, rfl, rfl, rfl, rfl, rfl⟩
  · exact absurd ⟨k, p, hf⟩ hn'
  · exact absurd ⟨k', p', hf'⟩ hn
  · exact ⟨rfl, rfl, rfl, rfl, rfl, rfl, rfl, rfl⟩
theorem HeadIs.len {ws : List (List UInt8)} {off : Int} {s : List UInt8} {ok : Bool} {z : Int} {sx sy : Bool} {l1 l2 l3 l4 : List Int} (h : HeadIs ws off s ok z sx sy l1 l2 l3 l4) :
    l1.length ≤ 60 ∧ l2.length ≤ 60 ∧ l3.length ≤ 60 ∧ l4.length ≤ 60 := by
  rcases h with ⟨k, p, ⟨_, t, _, ht⟩, rfl, rfl, rfl, rfl, rfl, rfl, rfl, rfl⟩ | ⟨hn, rfl, rfl, rfl, rfl, rfl, rfl, rfl, rfl⟩
  · have h1 := ht.1.1.1.small
    have h2 := ht.1.2.1.small
    exact ⟨h1.1, h1.2, h2.1, h2.2⟩
  · simp
theorem Quad.form {w : World} {lo hi : Nat} {a b c d : Value} {l1 l2 l3 l4 : List Int} (h : Quad w lo hi a b c d l1 l2 l3 l4) : ∃ p1 n1 c1 p2 n2 c2 q1 m1 d1 q2 m2 d2, a = .slice p1 n1 c1 ∧ b = .slice p2 n2 c2 ∧ c = .slice q1 m1 d1 ∧ d = .slice q2 m2 d2 := by
  obtain ⟨m1, m2, m3, h1, h2, h3, h4, o1, o2, o3, o4⟩ := h
  obtain ⟨_, _, rfl, _, _⟩ := o1.1.form
  obtain ⟨_, _, rfl, _, _⟩ := o2.1.form
  obtain ⟨_, _, rfl, _, _⟩ := o3.1.form
  obtain ⟨_, _, rfl, _, _⟩ := o4.1.form
  exact ⟨_, _, _, _, _, _, _, _, _, _, _, _, rfl, rfl, rfl, rfl⟩
theorem HeadPost.is {ws : List (List UInt8)} {off : Int} {s : List UInt8} {w w' : World} {e : Ending} (h : HeadPost ws off s w e w') :
    ∃ ok z sx sy p1 n1 c1 p2 n2 c2 q1 m1 d1 q2 m2 d2 l1 l2 l3 l4, HeadIs ws off s ok z sx sy l1 l2 l3 l4 ∧ e = .returned (.tuple #[.agg #[.int .i64 z, .bool sx, .slice p1 n1 c1, .slice p2 n2 c2, .bool sy, .slice q1 m1 d1, .slice q2 m2 d2], .bool ok]) ∧
      Quad w' w.heap.size w'.heap.size (.slice p1 n1 c1) (.slice p2 n2 c2) (.slice q1 m1 d1) (.slice q2 m2 d2) l1 l2 l3 l4 ∧ Below w.heap.size w w' := by
  obtain ⟨hb, ⟨k, p, a, b, c, d, hf, rfl, hfr⟩ | ⟨hn, rfl⟩⟩ := h
  · have hq := hfr.quad
    obtain ⟨_, _, _, _, _, _, _, _, _, _, _, _, rfl, rfl, rfl, rfl⟩ := hq.form
    exact ⟨true, _, _, _, _, _, _, _, _, _, _, _, _, _, _, _, _, _, _, _, .inl ⟨k, p, hf, rfl, rfl, rfl, rfl, rfl, rfl, rfl, rfl⟩, rfl, hq, hb⟩
  · exact ⟨false, 0, false, false, _, _, _, _, _, _, _, _, _, _, _, _, [], [], [], [], .inr ⟨hn, rfl, rfl, rfl, rfl, rfl, rfl, rfl, rfl⟩, rfl, (Quad.nil_ w' w'.heap.size rfl).wide hb.size (Nat.le_refl _), hb⟩
theorem Quad.within {w w' : World} {lo hi lo' hi' : Nat} {a b c d : Value} {l1 l2 l3 l4 : List Int} (h : Quad w lo' hi' a b c d l1 l2 l3 l4) (hw : Within lo hi w w') (hd : hi' ≤ lo ∨ hi ≤ lo') : Quad w' lo' hi' a b c d l1 l2 l3 l4 := by
  obtain ⟨m1, m2, m3, h1, h2, h3, h4, o1, o2, o3, o4⟩ := h
  exact ⟨m1, m2, m3, h1, h2, h3, h4, o1.within hw (by omega), o2.within hw (by omega), o3.within hw (by omega), o4.within hw (by omega)⟩
theorem Quad.ints {w : World} {lo hi : Nat} {a b c d : Value} {l1 l2 l3 l4 : List Int} (h : Quad w lo hi a b c d l1 l2 l3 l4) :
    Ints w 0 w.heap.size a l1 ∧ Ints w 0 w.heap.size b l2 ∧ Ints w 0 w.heap.size c l3 ∧ Ints w 0 w.heap.size d l4 := by
  obtain ⟨m1, m2, m3, h1, h2, h3, h4, o1, o2, o3, o4⟩ := h
  exact ⟨o1.ints0, o2.ints0, o3.ints0, o4.ints0⟩

set_option maxHeartbeats 4000000 in
set_option maxRecDepth 100000 in
theorem FnExactParsePlacement_any (s : List UInt8) (B : Nat) (w : World) (hw : Std B w) :
    Calls Tryz.prog 3 #[(Value.string ⟨(s).toArray⟩)] w fun e w' => e = .returned (.bool true) ∧ Below w.heap.size w w' := by
  by_cases hs : s.length ≤ 1048576
  · have HL := Lib.hid (sParsePlacement_any s w (by omega))
    go_enter Tryz.func3, Tryz.ntmps3
    go_wp2_with fail
    refine HL.out.mono ?_
    rintro e w1 hp
    obtain ⟨ok, z, sx, sy, p1, n1, c1, p2, n2, c2, q1, m1, d1, q2, m2, d2, l1, l2, l3, l4, his, rfl, hq, hb⟩ := hp.is
    have hlen := his.len
    have HIS := Lib.hid his
    have hbA : Below w1.heap.size w1 (w1.alloc (.cells #[.int .i64 z, .bool sx, .slice p1 n1 c1, .slice p2 n2 c2, .bool sy, .slice q1 m1 d1, .slice q2 m2 d2] 30)) := (Below.refl _ _).alloc (Nat.le_refl _) _
    have hA1 := row_new w1 #[.int .i64 z, .bool sx, .slice p1 n1 c1, .slice p2 n2 c2, .bool sy, .slice q1 m1 d1, .slice q2 m2 d2] 30
    have hqS := (hq.below hbA)
    have hbw := hb.trans (hbA.mono hb.size)
    have hlt : w1.heap.size < (w1.alloc (.cells #[.int .i64 z, .bool sx, .slice p1 n1 c1, .slice p2 n2 c2, .bool sy, .slice q1 m1 d1, .slice q2 m2 d2] 30)).heap.size := by simp
    have HC := Lib.hid (ParsePlacement_any s B _ (hw.below (hbw.mono hw.2.2.2)) (by omega))
    have HW := Lib.hid hw
    have hw1s := hb.size
    clear hp his hq hb hbA hw HL
    go_wp2_with fail
    refine HC.out.mono ?_
    rintro e w2 hp
    obtain ⟨ok', z', sx', sy', p3, n3, c3, p4, n4, c4, q3, m3, d3, q4, m4, d4, l1', l2', l3', l4', his', rfl, hq', hb'⟩ := hp.is
    obtain ⟨rfl, rfl, rfl, rfl, rfl, rfl, rfl, rfl⟩ := HeadIs.inj plWords_no plWords_one HIS.out his'
    clear his' hp HC
    have hbG : Below w2.heap.size w2 (w2.alloc (.cells #[.int .i64 z, .bool sx, .slice p3 n3 c3, .slice p4 n4 c4, .bool sy, .slice q3 m3 d3, .slice q4 m4 d4] 30)) := (Below.refl _ _).alloc (Nat.le_refl _) _
    have hG := row_new w2 #[.int .i64 z, .bool sx, .slice p3 n3 c3, .slice p4 n4 c4, .bool sy, .slice q3 m3 d3, .slice q4 m4 d4] 30
    have hA2 := row_on hA1 hb'
    have hA := row_on hA2 hbG
    have hqS2 := (hqS.below hb').below hbG
    have hqG2 := hq'.below hbG
    have hbw2 := (hbw.trans (hb'.mono hbw.size)).trans (hbG.mono (hbw.trans (hb'.mono hbw.size)).size)
    have hlo := hb'.size
    have hlt2 : w2.heap.size < (w2.alloc (.cells #[.int .i64 z, .bool sx, .slice p3 n3 c3, .slice p4 n4 c4, .bool sy, .slice q3 m3 d3, .slice q4 m4 d4] 30)).heap.size := by simp
    have hlt1 : w1.heap.size < w2.heap.size := Nat.lt_of_lt_of_le hlt hlo
    have hsS : w1.heap.size < (w1.alloc (.cells #[.int .i64 z, .bool sx, .slice p1 n1 c1, .slice p2 n2 c2, .bool sy, .slice q1 m1 d1, .slice q2 m2 d2] 30)).heap.size := hlt
    have x0 := row_cell hA2 0
    have x1 := row_cell hA2 1
    have x2 := row_cell hA2 2
    have x3 := row_cell hA2 3
    have x4 := row_cell hA2 4
    have x5 := row_cell hA2 5
    have x6 := row_cell hA2 6
    simp only [List.getElem?_toArray, List.getElem?_cons_zero, List.getElem?_cons_succ] at x0 x1 x2 x3 x4 x5 x6
    clear hA1 hqS hq' hbw hb' hbG hlt hA2
    generalize (w1.alloc (.cells #[.int .i64 z, .bool sx, .slice p1 n1 c1, .slice p2 n2 c2, .bool sy, .slice q1 m1 d1, .slice q2 m2 d2] 30)).heap.size = lo at *
    have HEQ := Lib.hid (eqPlacement_any z sx sy (.slice p3 n3 c3) (.slice p4 n4 c4) (.slice q3 m3 d3) (.slice q4 m4 d4) (.slice p1 n1 c1) (.slice p2 n2 c2) (.slice q1 m1 d1) (.slice q2 m2 d2) _ ⟨l1, hqG2.ints.1, hqS2.ints.1⟩ ⟨l2, hqG2.ints.2.1, hqS2.ints.2.1⟩ ⟨l3, hqG2.ints.2.2.1, hqS2.ints.2.2.1⟩ ⟨l4, hqG2.ints.2.2.2, hqS2.ints.2.2.2⟩)
    have hok : (ok != ok) = false := by simp
    have HQS := Lib.hid hqS2
    have HQG := Lib.hid hqG2
    have HBW := Lib.hid hbw2
    have HA := Lib.hid hA
    have HG := Lib.hid hG
    clear hqS2 hqG2 hbw2 hA hG
    go_wp2_with fail
    refine HEQ.out.mono ?_
    rintro e w3 ⟨rfl, hb3⟩
    clear x0 x1 x2 x3 x4 x5 x6
    clear HEQ
    have hG3 := row_on HG.out hb3
    have hA3 := row_on HA.out hb3
    have qS3 := HQS.out.below hb3
    have qG3 := HQG.out.below hb3
    have bw3 := HBW.out.trans (hb3.mono HBW.out.size)
    have hs3 : w2.heap.size < w3.heap.size := Nat.lt_of_lt_of_le hlt2 hb3.size
    clear HG HA HQS HQG HBW hb3 hlt2
    obtain ⟨hl1, hl2, hl3, hl4⟩ := hlen
    generalize hT : 1 + l1.length + l2.length + l3.length + l4.length = T at *
    have hTb : T ≤ 1000 := by omega
    have HM : Hid (Calls Tryz.prog 10 #[.agg #[.int .i64 z, .bool sx, .slice p3 n3 c3, .slice p4 n4 c4, .bool sy, .slice q3 m3 d3, .slice q4 m4 d4], .int .i64 1] w3 fun e w' => e = .returned (.int .i64 (T : Int)) ∧ Quad w' lo w2.heap.size (.slice p3 n3 c3) (.slice p4 n4 c4) (.slice q3 m3 d3) (.slice q4 m4 d4) (marks 1 l1.length) (marks (1 + l1.length) l2.length) (marks (1 + l1.length + l2.length) l3.length) (marks (1 + l1.length + l2.length + l3.length) l4.length) ∧ Within lo w2.heap.size w3 w') := by
      have := markPlacement_any z 1 sx sy (.slice p3 n3 c3) (.slice p4 n4 c4) (.slice q3 m3 d3) (.slice q4 m4 d4) l1 l2 l3 l4 lo w2.heap.size w3 qG3 (by omega) (by omega)
      rw [hT] at this
      exact this
    have HT := Lib.hid hT
    have g0 := row_cell hG3 0
    have g1 := row_cell hG3 1
    have g2 := row_cell hG3 2
    have g3 := row_cell hG3 3
    have g4 := row_cell hG3 4
    have g5 := row_cell hG3 5
    have g6 := row_cell hG3 6
    simp only [List.getElem?_toArray, List.getElem?_cons_zero, List.getElem?_cons_succ] at g0 g1 g2 g3 g4 g5 g6
    have HA := Lib.hid hA3
    have HG := Lib.hid hG3
    have HQS := Lib.hid qS3
    have HBW := Lib.hid bw3
    clear hT hA3 hG3 qS3 qG3 bw3
    go_wp2_with fail
    refine HM.out.mono ?_
    rintro e w4 ⟨rfl, hq4, hW4⟩
    clear g0 g1 g2 g3 g4 g5 g6
    have hG4 := row_within HG.out hW4 (.inr (Nat.le_refl _))
    have hA4 := row_within HA.out hW4 (.inl hsS)
    have qS4 := HQS.out.within hW4 (.inl (Nat.le_of_lt hsS))
    have bw4 := HBW.out.trans ((hW4.below (by omega)).mono (by omega))
    have hs4 : w2.heap.size < w4.heap.size := Nat.lt_of_lt_of_le hs3 hW4.size
    have HH : Hid (∀ W, Below w4.heap.size w4 W → Calls Tryz.prog 11 #[.agg #[.int .i64 z, .bool sx, .slice p3 n3 c3, .slice p4 n4 c4, .bool sy, .slice q3 m3 d3, .slice q4 m4 d4], .int .i64 1] W fun e w' => e = .returned (.int .i64 (T : Int)) ∧ Below W.heap.size W w') := by
      show ∀ _, _
      intro W hW
      have hq := (hq4.below hW).ints
      have := heldPlacement_any z 1 l1.length l2.length l3.length l4.length sx sy (.slice p3 n3 c3) (.slice p4 n4 c4) (.slice q3 m3 d3) (.slice q4 m4 d4) W hq.1 hq.2.1 hq.2.2.1 hq.2.2.2 (by rw [HT.out]; omega)
      rw [HT.out] at this
      exact this
    have g0 := row_cell hG4 0
    have g1 := row_cell hG4 1
    have g2 := row_cell hG4 2
    have g3 := row_cell hG4 3
    have g4 := row_cell hG4 4
    have g5 := row_cell hG4 5
    have g6 := row_cell hG4 6
    simp only [List.getElem?_toArray, List.getElem?_cons_zero, List.getElem?_cons_succ] at g0 g1 g2 g3 g4 g5 g6
    clear HA HG HQS HBW HM hW4 hs3
    have HA := Lib.hid hA4
    have HG := Lib.hid hG4
    have HQS := Lib.hid qS4
    have HBW := Lib.hid bw4
    clear hA4 hG4 qS4 bw4 hq4
    go_wp2_with fail
    refine (HH.out _ (Below.refl _ _)).mono ?_
    rintro e w5 ⟨rfl, hb5⟩
    clear g0 g1 g2 g3 g4 g5 g6
    have hTT : ((T : Int) != (T : Int)) = false := by simp
    have hT0 : ¬ (T : Int) < 0 := by omega
    have bw5 := HBW.out.trans (hb5.mono HBW.out.size)
    have HC := Lib.hid (ParsePlacement_any s B w5 (HW.out.below (bw5.mono HW.out.2.2.2)) (by omega))
    have HA5 := Lib.hid (row_on HA.out hb5)
    have HG5 := Lib.hid (row_on HG.out hb5)
    have HQS5 := Lib.hid (HQS.out.below hb5)
    have HBW5 := Lib.hid bw5
    have HB5 := Lib.hid hb5
    have hs5 : w2.heap.size < w5.heap.size := Nat.lt_of_lt_of_le hs4 hb5.size
    clear HA HG HQS HBW bw5 hb5 hs4
    go_wp2_with fail
    refine HC.out.mono ?_
    rintro e w6 hp
    obtain ⟨ok', z', sx', sy', p5, n5, c5, p6, n6, c6, q5, m5, d5, q6, m6, d6, l1', l2', l3', l4', his', rfl, hq', hb'⟩ := hp.is
    obtain ⟨rfl, rfl, rfl, rfl, rfl, rfl, rfl, rfl⟩ := HeadIs.inj plWords_no plWords_one HIS.out his'
    clear his' hp HC
    have hbH : Below w6.heap.size w6 (w6.alloc (.cells #[.int .i64 z, .bool sx, .slice p5 n5 c5, .slice p6 n6 c6, .bool sy, .slice q5 m5 d5, .slice q6 m6 d6] 30)) := (Below.refl _ _).alloc (Nat.le_refl _) _
    have hA6 := row_on HA5.out hb'
    have hG6 := row_on (row_on HG5.out hb') hbH
    have hbx := (HB5.out.trans (hb'.mono HB5.out.size)).trans (hbH.mono (HB5.out.trans (hb'.mono HB5.out.size)).size)
    have qS6 := (HQS5.out.below hb').below hbH
    have qH6 := hq'.below hbH
    have bw6 := (HBW5.out.trans (hb'.mono HBW5.out.size)).trans (hbH.mono (HBW5.out.trans (hb'.mono HBW5.out.size)).size)
    have hs6 : w2.heap.size < w6.heap.size := Nat.lt_of_lt_of_le hs5 hb'.size
    have hs6' : w1.heap.size < w6.heap.size := Nat.lt_trans hlt1 hs6
    have x0 := row_cell hA6 0
    have x1 := row_cell hA6 1
    have x2 := row_cell hA6 2
    have x3 := row_cell hA6 3
    have x4 := row_cell hA6 4
    have x5 := row_cell hA6 5
    have x6 := row_cell hA6 6
    simp only [List.getElem?_toArray, List.getElem?_cons_zero, List.getElem?_cons_succ] at x0 x1 x2 x3 x4 x5 x6
    have HEQ := Lib.hid (eqPlacement_any z sx sy (.slice p5 n5 c5) (.slice p6 n6 c6) (.slice q5 m5 d5) (.slice q6 m6 d6) (.slice p1 n1 c1) (.slice p2 n2 c2) (.slice q1 m1 d1) (.slice q2 m2 d2) _ ⟨l1, qH6.ints.1, qS6.ints.1⟩ ⟨l2, qH6.ints.2.1, qS6.ints.2.1⟩ ⟨l3, qH6.ints.2.2.1, qS6.ints.2.2.1⟩ ⟨l4, qH6.ints.2.2.2, qS6.ints.2.2.2⟩)
    have HG := Lib.hid hG6
    have HBX := Lib.hid hbx
    have HBW := Lib.hid bw6
    clear hA6 hG6 hbx qS6 qH6 bw6 hq' hb' hbH HA5 HG5 HQS5 HBW5 HB5
    go_wp2_with fail
    refine HEQ.out.mono ?_
    rintro e w7 ⟨rfl, hb7⟩
    clear x0 x1 x2 x3 x4 x5 x6
    have hG7 := row_on HG.out hb7
    have g0 := row_cell hG7 0
    have g1 := row_cell hG7 1
    have g2 := row_cell hG7 2
    have g3 := row_cell hG7 3
    have g4 := row_cell hG7 4
    have g5 := row_cell hG7 5
    have g6 := row_cell hG7 6
    simp only [List.getElem?_toArray, List.getElem?_cons_zero, List.getElem?_cons_succ] at g0 g1 g2 g3 g4 g5 g6
    have HBX7 := Lib.hid (HBX.out.trans (hb7.mono HBX.out.size))
    have HBW7 := Lib.hid (HBW.out.trans (hb7.mono HBW.out.size))
    clear hG7 hb7 HG HBX HBW HEQ
    go_wp2_with fail
    refine (HH.out _ HBX7.out).mono ?_
    rintro e w8 ⟨rfl, hb8⟩
    clear g0 g1 g2 g3 g4 g5 g6
    have HBW8 := Lib.hid (HBW7.out.trans (hb8.mono HBW7.out.size))
    clear hb8 HH
    go_wp2_with fail
    go_ret
    exact ⟨rfl, HBW8.out⟩
  · have HB := Lib.hid (Below.refl w.heap.size w)
    go_enter Tryz.func3, Tryz.ntmps3
    go_wp2_with fail
    go_ret
    exact ⟨rfl, HB.out⟩
set_option maxHeartbeats 4000000 in
set_option maxRecDepth 100000 in
theorem FnExactParseStep_any (s : List UInt8) (B : Nat) (w : World) (hw : Std B w) :
    Calls Tryz.prog 4 #[(Value.string ⟨(s).toArray⟩)] w fun e w' => e = .returned (.bool true) ∧ Below w.heap.size w w' := by
  by_cases hs : s.length ≤ 1048576
  · have HL := Lib.hid (sParseStep_any s w (by omega))
    go_enter Tryz.func4, Tryz.ntmps4
    go_wp2_with fail
    refine HL.out.mono ?_
    rintro e w1 hp
    obtain ⟨ok, z, sx, sy, p1, n1, c1, p2, n2, c2, q1, m1, d1, q2, m2, d2, l1, l2, l3, l4, his, rfl, hq, hb⟩ := hp.is
    have hlen := his.len
    have HIS := Lib.hid his
    have hbA : Below w1.heap.size w1 (w1.alloc (.cells #[.int .i64 z, .bool sx, .slice p1 n1 c1, .slice p2 n2 c2, .bool sy, .slice q1 m1 d1, .slice q2 m2 d2] 37)) := (Below.refl _ _).alloc (Nat.le_refl _) _
    have hA1 := row_new w1 #[.int .i64 z, .bool sx, .slice p1 n1 c1, .slice p2 n2 c2, .bool sy, .slice q1 m1 d1, .slice q2 m2 d2] 37
    have hqS := (hq.below hbA)
    have hbw := hb.trans (hbA.mono hb.size)
    have hlt : w1.heap.size < (w1.alloc (.cells #[.int .i64 z, .bool sx, .slice p1 n1 c1, .slice p2 n2 c2, .bool sy, .slice q1 m1 d1, .slice q2 m2 d2] 37)).heap.size := by simp
    have HC := Lib.hid (ParseStep_any s B _ (hw.below (hbw.mono hw.2.2.2)) (by omega))
    have HW := Lib.hid hw
    have hw1s := hb.size
    clear hp his hq hb hbA hw HL
    go_wp2_with fail
    refine HC.out.mono ?_
    rintro e w2 hp
    obtain ⟨ok', z', sx', sy', p3, n3, c3, p4, n4, c4, q3, m3, d3, q4, m4, d4, l1', l2', l3', l4', his', rfl, hq', hb'⟩ := hp.is
    obtain ⟨rfl, rfl, rfl, rfl, rfl, rfl, rfl, rfl⟩ := HeadIs.inj stWords_no stWords_one HIS.out his'
    clear his' hp HC
    have hbG : Below w2.heap.size w2 (w2.alloc (.cells #[.int .i64 z, .bool sx, .slice p3 n3 c3, .slice p4 n4 c4, .bool sy, .slice q3 m3 d3, .slice q4 m4 d4] 37)) := (Below.refl _ _).alloc (Nat.le_refl _) _
    have hG := row_new w2 #[.int .i64 z, .bool sx, .slice p3 n3 c3, .slice p4 n4 c4, .bool sy, .slice q3 m3 d3, .slice q4 m4 d4] 37
    have hA2 := row_on hA1 hb'
    have hA := row_on hA2 hbG
    have hqS2 := (hqS.below hb').below hbG
    have hqG2 := hq'.below hbG
    have hbw2 := (hbw.trans (hb'.mono hbw.size)).trans (hbG.mono (hbw.trans (hb'.mono hbw.size)).size)
    have hlo := hb'.size
    have hlt2 : w2.heap.size < (w2.alloc (.cells #[.int .i64 z, .bool sx, .slice p3 n3 c3, .slice p4 n4 c4, .bool sy, .slice q3 m3 d3, .slice q4 m4 d4] 37)).heap.size := by simp
    have hlt1 : w1.heap.size < w2.heap.size := Nat.lt_of_lt_of_le hlt hlo
    have hsS : w1.heap.size < (w1.alloc (.cells #[.int .i64 z, .bool sx, .slice p1 n1 c1, .slice p2 n2 c2, .bool sy, .slice q1 m1 d1, .slice q2 m2 d2] 37)).heap.size := hlt
    have x0 := row_cell hA2 0
    have x1 := row_cell hA2 1
    have x2 := row_cell hA2 2
    have x3 := row_cell hA2 3
    have x4 := row_cell hA2 4
    have x5 := row_cell hA2 5
    have x6 := row_cell hA2 6
    simp only [List.getElem?_toArray, List.getElem?_cons_zero, List.getElem?_cons_succ] at x0 x1 x2 x3 x4 x5 x6
    clear hA1 hqS hq' hbw hb' hbG hlt hA2
    generalize (w1.alloc (.cells #[.int .i64 z, .bool sx, .slice p1 n1 c1, .slice p2 n2 c2, .bool sy, .slice q1 m1 d1, .slice q2 m2 d2] 37)).heap.size = lo at *
    have HEQ := Lib.hid (eqStep_any z sx sy (.slice p3 n3 c3) (.slice p4 n4 c4) (.slice q3 m3 d3) (.slice q4 m4 d4) (.slice p1 n1 c1) (.slice p2 n2 c2) (.slice q1 m1 d1) (.slice q2 m2 d2) _ ⟨l1, hqG2.ints.1, hqS2.ints.1⟩ ⟨l2, hqG2.ints.2.1, hqS2.ints.2.1⟩ ⟨l3, hqG2.ints.2.2.1, hqS2.ints.2.2.1⟩ ⟨l4, hqG2.ints.2.2.2, hqS2.ints.2.2.2⟩)
    have hok : (ok != ok) = false := by simp
    have HQS := Lib.hid hqS2
    have HQG := Lib.hid hqG2
    have HBW := Lib.hid hbw2
    have HA := Lib.hid hA
    have HG := Lib.hid hG
    clear hqS2 hqG2 hbw2 hA hG
    go_wp2_with fail
    refine HEQ.out.mono ?_
    rintro e w3 ⟨rfl, hb3⟩
    clear x0 x1 x2 x3 x4 x5 x6
    clear HEQ
    have hG3 := row_on HG.out hb3
    have hA3 := row_on HA.out hb3
    have qS3 := HQS.out.below hb3
    have qG3 := HQG.out.below hb3
    have bw3 := HBW.out.trans (hb3.mono HBW.out.size)
    have hs3 : w2.heap.size < w3.heap.size := Nat.lt_of_lt_of_le hlt2 hb3.size
    clear HG HA HQS HQG HBW hb3 hlt2
    obtain ⟨hl1, hl2, hl3, hl4⟩ := hlen
    generalize hT : 1 + l1.length + l2.length + l3.length + l4.length = T at *
    have hTb : T ≤ 1000 := by omega
    have HM : Hid (Calls Tryz.prog 15 #[.agg #[.int .i64 z, .bool sx, .slice p3 n3 c3, .slice p4 n4 c4, .bool sy, .slice q3 m3 d3, .slice q4 m4 d4], .int .i64 1] w3 fun e w' => e = .returned (.int .i64 (T : Int)) ∧ Quad w' lo w2.heap.size (.slice p3 n3 c3) (.slice p4 n4 c4) (.slice q3 m3 d3) (.slice q4 m4 d4) (marks 1 l1.length) (marks (1 + l1.length) l2.length) (marks (1 + l1.length + l2.length) l3.length) (marks (1 + l1.length + l2.length + l3.length) l4.length) ∧ Within lo w2.heap.size w3 w') := by
      have := markStep_any z 1 sx sy (.slice p3 n3 c3) (.slice p4 n4 c4) (.slice q3 m3 d3) (.slice q4 m4 d4) l1 l2 l3 l4 lo w2.heap.size w3 qG3 (by omega) (by omega)
      rw [hT] at this
      exact this
    have HT := Lib.hid hT
    have g0 := row_cell hG3 0
    have g1 := row_cell hG3 1
    have g2 := row_cell hG3 2
    have g3 := row_cell hG3 3
    have g4 := row_cell hG3 4
    have g5 := row_cell hG3 5
    have g6 := row_cell hG3 6
    simp only [List.getElem?_toArray, List.getElem?_cons_zero, List.getElem?_cons_succ] at g0 g1 g2 g3 g4 g5 g6
    have HA := Lib.hid hA3
    have HG := Lib.hid hG3
    have HQS := Lib.hid qS3
    have HBW := Lib.hid bw3
    clear hT hA3 hG3 qS3 qG3 bw3
    go_wp2_with fail
    refine HM.out.mono ?_
    rintro e w4 ⟨rfl, hq4, hW4⟩
    clear g0 g1 g2 g3 g4 g5 g6
    have hG4 := row_within HG.out hW4 (.inr (Nat.le_refl _))
    have hA4 := row_within HA.out hW4 (.inl hsS)
    have qS4 := HQS.out.within hW4 (.inl (Nat.le_of_lt hsS))
    have bw4 := HBW.out.trans ((hW4.below (by omega)).mono (by omega))
    have hs4 : w2.heap.size < w4.heap.size := Nat.lt_of_lt_of_le hs3 hW4.size
    have HH : Hid (∀ W, Below w4.heap.size w4 W → Calls Tryz.prog 16 #[.agg #[.int .i64 z, .bool sx, .slice p3 n3 c3, .slice p4 n4 c4, .bool sy, .slice q3 m3 d3, .slice q4 m4 d4], .int .i64 1] W fun e w' => e = .returned (.int .i64 (T : Int)) ∧ Below W.heap.size W w') := by
      show ∀ _, _
      intro W hW
      have hq := (hq4.below hW).ints
      have := heldStep_any z 1 l1.length l2.length l3.length l4.length sx sy (.slice p3 n3 c3) (.slice p4 n4 c4) (.slice q3 m3 d3) (.slice q4 m4 d4) W hq.1 hq.2.1 hq.2.2.1 hq.2.2.2 (by rw [HT.out]; omega)
      rw [HT.out] at this
      exact this
    have g0 := row_cell hG4 0
    have g1 := row_cell hG4 1
    have g2 := row_cell hG4 2
    have g3 := row_cell hG4 3
    have g4 := row_cell hG4 4
    have g5 := row_cell hG4 5
    have g6 := row_cell hG4 6
    simp only [List.getElem?_toArray, List.getElem?_cons_zero, List.getElem?_cons_succ] at g0 g1 g2 g3 g4 g5 g6
    clear HA HG HQS HBW HM hW4 hs3
    have HA := Lib.hid hA4
    have HG := Lib.hid hG4
    have HQS := Lib.hid qS4
    have HBW := Lib.hid bw4
    clear hA4 hG4 qS4 bw4 hq4
    go_wp2_with fail
    refine (HH.out _ (Below.refl _ _)).mono ?_
    rintro e w5 ⟨rfl, hb5⟩
    clear g0 g1 g2 g3 g4 g5 g6
    have hTT : ((T : Int) != (T : Int)) = false := by simp
    have hT0 : ¬ (T : Int) < 0 := by omega
    have bw5 := HBW.out.trans (hb5.mono HBW.out.size)
    have HC := Lib.hid (ParseStep_any s B w5 (HW.out.below (bw5.mono HW.out.2.2.2)) (by omega))
    have HA5 := Lib.hid (row_on HA.out hb5)
    have HG5 := Lib.hid (row_on HG.out hb5)
    have HQS5 := Lib.hid (HQS.out.below hb5)
    have HBW5 := Lib.hid bw5
    have HB5 := Lib.hid hb5
    have hs5 : w2.heap.size < w5.heap.size := Nat.lt_of_lt_of_le hs4 hb5.size
    clear HA HG HQS HBW bw5 hb5 hs4
    go_wp2_with fail
    refine HC.out.mono ?_
    rintro e w6 hp
    obtain ⟨ok', z', sx', sy', p5, n5, c5, p6, n6, c6, q5, m5, d5, q6, m6, d6, l1', l2', l3', l4', his', rfl, hq', hb'⟩ := hp.is
    obtain ⟨rfl, rfl, rfl, rfl, rfl, rfl, rfl, rfl⟩ := HeadIs.inj stWords_no stWords_one HIS.out his'
    clear his' hp HC
    have hbH : Below w6.heap.size w6 (w6.alloc (.cells #[.int .i64 z, .bool sx, .slice p5 n5 c5, .slice p6 n6 c6, .bool sy, .slice q5 m5 d5, .slice q6 m6 d6] 37)) := (Below.refl _ _).alloc (Nat.le_refl _) _
    have hA6 := row_on HA5.out hb'
    have hG6 := row_on (row_on HG5.out hb') hbH
    have hbx := (HB5.out.trans (hb'.mono HB5.out.size)).trans (hbH.mono (HB5.out.trans (hb'.mono HB5.out.size)).size)
    have qS6 := (HQS5.out.below hb').below hbH
    have qH6 := hq'.below hbH
    have bw6 := (HBW5.out.trans (hb'.mono HBW5.out.size)).trans (hbH.mono (HBW5.out.trans (hb'.mono HBW5.out.size)).size)
    have hs6 : w2.heap.size < w6.heap.size := Nat.lt_of_lt_of_le hs5 hb'.size
    have hs6' : w1.heap.size < w6.heap.size := Nat.lt_trans hlt1 hs6
    have x0 := row_cell hA6 0
    have x1 := row_cell hA6 1
    have x2 := row_cell hA6 2
    have x3 := row_cell hA6 3
    have x4 := row_cell hA6 4
    have x5 := row_cell hA6 5
    have x6 := row_cell hA6 6
    simp only [List.getElem?_toArray, List.getElem?_cons_zero, List.getElem?_cons_succ] at x0 x1 x2 x3 x4 x5 x6
    have HEQ := Lib.hid (eqStep_any z sx sy (.slice p5 n5 c5) (.slice p6 n6 c6) (.slice q5 m5 d5) (.slice q6 m6 d6) (.slice p1 n1 c1) (.slice p2 n2 c2) (.slice q1 m1 d1) (.slice q2 m2 d2) _ ⟨l1, qH6.ints.1, qS6.ints.1⟩ ⟨l2, qH6.ints.2.1, qS6.ints.2.1⟩ ⟨l3, qH6.ints.2.2.1, qS6.ints.2.2.1⟩ ⟨l4, qH6.ints.2.2.2, qS6.ints.2.2.2⟩)
    have HG := Lib.hid hG6
    have HBX := Lib.hid hbx
    have HBW := Lib.hid bw6
    clear hA6 hG6 hbx qS6 qH6 bw6 hq' hb' hbH HA5 HG5 HQS5 HBW5 HB5
    go_wp2_with fail
    refine HEQ.out.mono ?_
    rintro e w7 ⟨rfl, hb7⟩
    clear x0 x1 x2 x3 x4 x5 x6
    have hG7 := row_on HG.out hb7
    have g0 := row_cell hG7 0
    have g1 := row_cell hG7 1
    have g2 := row_cell hG7 2
    have g3 := row_cell hG7 3
    have g4 := row_cell hG7 4
    have g5 := row_cell hG7 5
    have g6 := row_cell hG7 6
    simp only [List.getElem?_toArray, List.getElem?_cons_zero, List.getElem?_cons_succ] at g0 g1 g2 g3 g4 g5 g6
    have HBX7 := Lib.hid (HBX.out.trans (hb7.mono HBX.out.size))
    have HBW7 := Lib.hid (HBW.out.trans (hb7.mono HBW.out.size))
    clear hG7 hb7 HG HBX HBW HEQ
    go_wp2_with fail
    refine (HH.out _ HBX7.out).mono ?_
    rintro e w8 ⟨rfl, hb8⟩
    clear g0 g1 g2 g3 g4 g5 g6
    have HBW8 := Lib.hid (HBW7.out.trans (hb8.mono HBW7.out.size))
    clear hb8 HH
    go_wp2_with fail
    go_ret
    exact ⟨rfl, HBW8.out⟩
  · have HB := Lib.hid (Below.refl w.heap.size w)
    go_enter Tryz.func4, Tryz.ntmps4
    go_wp2_with fail
    go_ret
    exact ⟨rfl, HB.out⟩
end Go.Proofs.YtnpfmmdekjjnjaaGreatDoor
