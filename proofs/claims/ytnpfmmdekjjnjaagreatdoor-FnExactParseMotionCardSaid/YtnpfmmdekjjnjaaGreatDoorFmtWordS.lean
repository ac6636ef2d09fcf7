/- Contracts: the text of a placement and of a step: spec.FormatPlacement, spec.FormatStep. -/
import Derived.Test.YtnpfmmdekjjnjaaGreatDoorWordIdx
import Derived.Test.YtnpfmmdekjjnjaaGreatDoorFmtPointS
namespace Go.Proofs.YtnpfmmdekjjnjaaGreatDoor
open Go Go.RowKit Pl

theorem in_yes (z lo hi : Int) (w : World) (h1 : lo ≤ z) (h2 : z ≤ hi) : Calls Tryz.prog 62 #[.int .i64 z, .int .i64 lo, .int .i64 hi] w fun e w' => e = .returned (.bool true) ∧ w = w' := by
  have b1 : decide (lo ≤ z) = true := decide_eq_true h1
  have b2 : decide (z ≤ hi) = true := decide_eq_true h2
  go_enter Tryz.func62, Tryz.ntmps62
  go_wp2_with fail
  go_ret
  exact ⟨rfl, rfl⟩
theorem l22Turn_yes (z : Int) (w : World) (h1 : -1 ≤ z) (h2 : z ≤ 1) : Calls Tryz.prog 72 #[.int .i64 z] w fun e w' => e = .returned (.bool true) ∧ w = w' := by
  have HC := Lib.hid (in_yes z (-1) 1 w h1 h2)
  clear h1 h2
  go_enter Tryz.func72, Tryz.ntmps72
  go_wp2_with fail
  refine HC.out.mono ?_
  rintro e w' ⟨rfl, rfl⟩
  go_wp2_with fail
  go_ret
  exact ⟨rfl, rfl⟩
def letterRow : Array Value := #[(Value.string ⟨([101]).toArray⟩), (Value.string ⟨([110]).toArray⟩), (Value.string ⟨([119]).toArray⟩), (Value.string ⟨([115]).toArray⟩)]
theorem letterRow_at {k : Nat} (hk : k < 4) : letterRow[k]? = some (Value.string ⟨(plWords.getD k []).toArray⟩) := by
  match k, hk with
  | 0, _ => rfl
  | 1, _ => rfl
  | 2, _ => rfl
  | 3, _ => rfl
theorem l29Letters_any (k : Nat) (hk : k < 4) (w : World) : Calls Tryz.prog 64 #[] w fun e w' => ∃ g, e = .returned (.slice (some ⟨g, 0, none⟩) 4 4) ∧ Below w.heap.size w w' ∧ g < w'.heap.size ∧ w'.cell? ⟨g, k, none⟩ = some (Value.string ⟨(plWords.getD k []).toArray⟩) := by
  have HB := Lib.hid (show Below w.heap.size w (w.alloc (.cells letterRow 9)) from (Below.refl _ _).alloc (Nat.le_refl _) _)
  have HC := Lib.hid ((row_cell (row_new w letterRow 9) k).trans (letterRow_at hk))
  have HS := Lib.hid (show w.heap.size < (w.alloc (.cells letterRow 9)).heap.size by simp)
  go_enter Tryz.func64, Tryz.ntmps64
  go_wp2_with fail
  go_ret
  exact ⟨_, rfl, HB.out, HS.out, HC.out⟩

theorem words_short {k : Nat} : (plWords.getD k []).length ≤ 5 ∧ (stWords.getD k []).length ≤ 5 := by
  constructor
  · rcases Nat.lt_or_ge k 4 with h | h
    · match k, h with
      | 0, _ => decide
      | 1, _ => decide
      | 2, _ => decide
      | 3, _ => decide
    · simp [List.getD, List.getElem?_eq_none (show plWords.length ≤ k from h)]
  · rcases Nat.lt_or_ge k 3 with h | h
    · match k, h with
      | 0, _ => decide
      | 1, _ => decide
      | 2, _ => decide
    · simp [List.getD, List.getElem?_eq_none (show stWords.length ≤ k from h)]
theorem fmtPt_short {p : Pt} (h : p.small) : (fmtPt p).length ≤ 2601 := by
  have h1 := fmtRat_short h.1
  have h2 := fmtRat_short h.2
  unfold fmtPt
  rw [List.length_append, List.length_append, List.length_singleton]
  omega

set_option maxHeartbeats 2000000 in
/-- spec.FormatPlacement. -/
theorem sFormatPlacement_any (k : Nat) (hk : k < 4) (p : Pt) (va vb vc vd : Value) (w : World) (h : PtV w 0 w.heap.size (.agg #[.bool p.x.neg, va, vb, .bool p.y.neg, vc, vd]) p) (hs : p.small) :
    Calls Tryz.prog 32 #[.agg #[.int .i64 k, .bool p.x.neg, va, vb, .bool p.y.neg, vc, vd]] w fun e w' => e = .returned (Value.string ⟨(fmtWord plWords k p).toArray⟩) ∧ Below w.heap.size w w' := by
  have hb1 : Below w.heap.size w (w.alloc (.cells #[.int .i64 k, .bool p.x.neg, va, vb, .bool p.y.neg, vc, vd] 30)) := (Below.refl _ _).alloc (Nat.le_refl _) _
  have HH := Lib.hid (h.on hb1)
  have HI := Lib.hid (in_yes k 0 3 (w.alloc (.cells #[.int .i64 k, .bool p.x.neg, va, vb, .bool p.y.neg, vc, vd] 30)) (by omega) (by omega))
  have HC := Lib.hid (sIsValidPoint_any p _ _ HH.out hs)
  clear h
  go_enter Tryz.func32, Tryz.ntmps32
  go_wp2_with fail
  refine HI.out.mono ?_
  rintro e w' ⟨rfl, rfl⟩
  clear HI
  go_wp2_with fail
  refine HC.out.mono ?_
  rintro e W ⟨rfl, hb2⟩
  have d0 := boxed_on hb2 0
  have d1 := boxed_on hb2 1
  have d2 := boxed_on hb2 2
  have d3 := boxed_on hb2 3
  have d4 := boxed_on hb2 4
  have d5 := boxed_on hb2 5
  have d6 := boxed_on hb2 6
  simp only [List.getElem?_toArray, List.getElem?_cons_zero, List.getElem?_cons_succ] at d0 d1 d2 d3 d4 d5 d6
  have hbw := hb1.trans (hb2.mono hb1.size)
  have hbk : w.heap.size < W.heap.size := Nat.lt_of_lt_of_le (by simp) hb2.size
  have HH2 := Lib.hid (HH.out.on hb2)
  clear HC HH hb1 hb2
  by_cases hok : p.ok
  · have HO := Lib.hid hok
    rw [decide_eq_true hok]
    clear hok
    have HCA := Lib.hid (show ∀ W', Below W.heap.size W W' → Calls Tryz.prog 65 #[.agg #[.bool p.x.neg, va, vb, .bool p.y.neg, vc, vd]] W' fun e w' => e = .returned (Value.string ⟨(fmtPt p).toArray⟩) ∧ Below W'.heap.size W' w' from fun W' hW =>
      (sFormatPoint_any p _ W' (HH2.out.on hW) hs).mono fun e w' ⟨h1, h2⟩ => ⟨by rw [h1]; unfold fmtPtO; rw [if_pos HO.out], h2⟩)
    have HCB := Lib.hid (l29Letters_any k hk)
    have hba := fmtPt_short hs
    have hbd := (words_short (k := k)).1
    have hf : Hid (fmtWord plWords k p = plWords.getD k [] ++ ([32] ++ fmtPt p)) := by
      show _ = _
      unfold fmtWord
      rw [if_pos ⟨hk, HO.out⟩]
      rfl
    generalize fmtPt p = sa at *
    generalize hsb : plWords.getD k [] = sb at *
    clear hsb
    have hA : Below W.heap.size W W := Below.refl _ _
    have hkI : (k : Int) < 4 := by omega
    go_wp2_with fail
    go_region_with (first
      | (go_at_call 65
         refine (HCA.out _ ?_).mono ?_
         · first | exact hA.drew | exact hA
         rintro e w2 ⟨rfl, hP⟩
         try (have l1 : w2.cell? ⟨g, k, none⟩ = some (Value.string ⟨(sb).toArray⟩) := by rw [hP.cell (by first | exact hg | (simp; omega))]; exact l0)
         have hA' : Below W.heap.size W w2 := by first | exact hA.drew.trans (hP.mono hA.drew.size) | exact hA.trans (hP.mono hA.size)
         clear hA
         have hA := hA'
         clear hA' hP
         have x0 := (hA.cell (p := ⟨w.heap.size, 0, none⟩) hbk).trans d0)
      | (go_at_call 64
         refine (HCB.out _).mono ?_
         rintro e w2 ⟨g, rfl, hP, hg, l0⟩
         have hA' : Below W.heap.size W w2 := by first | exact hA.drew.trans (hP.mono hA.drew.size) | exact hA.trans (hP.mono hA.size)
         clear hA
         have hA := hA'
         clear hA' hP
         have x0 := (hA.cell (p := ⟨w.heap.size, 0, none⟩) hbk).trans d0
         have x1 := (hA.cell (p := ⟨w.heap.size, 1, none⟩) hbk).trans d1
         have x2 := (hA.cell (p := ⟨w.heap.size, 2, none⟩) hbk).trans d2
         have x3 := (hA.cell (p := ⟨w.heap.size, 3, none⟩) hbk).trans d3
         have x4 := (hA.cell (p := ⟨w.heap.size, 4, none⟩) hbk).trans d4
         have x5 := (hA.cell (p := ⟨w.heap.size, 5, none⟩) hbk).trans d5
         have x6 := (hA.cell (p := ⟨w.heap.size, 6, none⟩) hbk).trans d6))
    all_goals
      go_wp2_with fail
      go_ret
      exact ⟨congrArg Ending.returned ((str_join3 sb [32] sa).trans (by rw [hf.out])), hbw.trans (hA.mono hbw.size)⟩
  · have HO := Lib.hid hok
    rw [decide_eq_false hok]
    clear hok
    go_wp2_with fail
    go_ret
    exact ⟨by unfold fmtWord; rw [if_neg (fun h => HO.out h.2)]; rfl, hbw⟩
end Go.Proofs.YtnpfmmdekjjnjaaGreatDoor
