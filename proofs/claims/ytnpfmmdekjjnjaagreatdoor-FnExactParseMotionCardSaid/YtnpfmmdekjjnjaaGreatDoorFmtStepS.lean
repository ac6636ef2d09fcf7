/- Contracts: the text of a step: spec.FormatStep. -/
import Derived.Test.YtnpfmmdekjjnjaaGreatDoorFmtWordS
import Derived.IntWalk
namespace Go.Proofs.YtnpfmmdekjjnjaaGreatDoor
open Go Go.RowKit Pl

def stepRow : Array Value := #[(Value.string ⟨([114, 105, 103, 104, 116, 32]).toArray⟩), (Value.string ⟨([109, 111, 118, 101, 32]).toArray⟩), (Value.string ⟨([108, 101, 102, 116, 32]).toArray⟩)]
theorem stepRow_at {k : Nat} (hk : k < 3) : stepRow[k]? = some (Value.string ⟨(stWords.getD k [] ++ [32]).toArray⟩) := by
  match k, hk with
  | 0, _ => rfl
  | 1, _ => rfl
  | 2, _ => rfl
theorem str_join2 (a b : List UInt8) : Value.string ((⟨a.toArray⟩ : ByteArray) ++ ⟨b.toArray⟩) = (Value.string ⟨(a ++ b).toArray⟩) := str_append a b

set_option maxHeartbeats 2000000 in
/-- spec.FormatStep. -/
theorem sFormatStep_any (k : Nat) (hk : k < 3) (p : Pt) (va vb vc vd : Value) (w : World) (h : PtV w 0 w.heap.size (.agg #[.bool p.x.neg, va, vb, .bool p.y.neg, vc, vd]) p) (hs : p.small) :
    Calls Tryz.prog 39 #[.agg #[.int .i64 ((k : Int) - 1), .bool p.x.neg, va, vb, .bool p.y.neg, vc, vd]] w fun e w' => e = .returned (Value.string ⟨(fmtWord stWords k p).toArray⟩) ∧ Below w.heap.size w w' := by
  have hb1 : Below w.heap.size w (w.alloc (.cells #[.int .i64 ((k : Int) - 1), .bool p.x.neg, va, vb, .bool p.y.neg, vc, vd] 37)) := (Below.refl _ _).alloc (Nat.le_refl _) _
  have HH := Lib.hid (h.on hb1)
  have HI := Lib.hid (l22Turn_yes ((k : Int) - 1) (w.alloc (.cells #[.int .i64 ((k : Int) - 1), .bool p.x.neg, va, vb, .bool p.y.neg, vc, vd] 37)) (by omega) (by omega))
  have HC := Lib.hid (sIsValidPoint_any p _ _ HH.out hs)
  clear h
  go_enter Tryz.func39, Tryz.ntmps39
  go_wp2_with fail
  refine HI.out.mono ?_
  rintro e w' ⟨rfl, rfl⟩
  clear HI
  go_wp2_with fail
  refine HC.out.mono ?_
  rintro e W ⟨rfl, hb2⟩
  have d0 := boxed_on hb2 0
  have d1 := boxed_on hb2 1
  have d2 := boxed_on hb2 2
  have d3 := boxed_on hb2 3
  have d4 := boxed_on hb2 4
  have d5 := boxed_on hb2 5
  have d6 := boxed_on hb2 6
  simp only [List.getElem?_toArray, List.getElem?_cons_zero, List.getElem?_cons_succ] at d0 d1 d2 d3 d4 d5 d6
  have hbw := hb1.trans (hb2.mono hb1.size)
  have hbk : w.heap.size < W.heap.size := Nat.lt_of_lt_of_le (by simp) hb2.size
  have HH2 := Lib.hid (HH.out.on hb2)
  clear HC HH hb1 hb2
  by_cases hok : p.ok
  · have HO := Lib.hid hok
    rw [decide_eq_true hok]
    clear hok
    have HCA := Lib.hid (show ∀ W', Below W.heap.size W W' → Calls Tryz.prog 65 #[.agg #[.bool p.x.neg, va, vb, .bool p.y.neg, vc, vd]] W' fun e w' => e = .returned (Value.string ⟨(fmtPt p).toArray⟩) ∧ Below W'.heap.size W' w' from fun W' hW =>
      (sFormatPoint_any p _ W' (HH2.out.on hW) hs).mono fun e w' ⟨h1, h2⟩ => ⟨by rw [h1]; unfold fmtPtO; rw [if_pos HO.out], h2⟩)
    have hba := fmtPt_short hs
    have hbd : (stWords.getD k [] ++ [32]).length ≤ 6 := by have := (words_short (k := k)).2; rw [List.length_append, List.length_singleton]; omega
    have hf : Hid (fmtWord stWords k p = (stWords.getD k [] ++ [32]) ++ fmtPt p) := by
      show _ = _
      unfold fmtWord
      rw [if_pos ⟨hk, HO.out⟩, List.append_assoc]
      rfl
    have lrow : ∀ W : World, (W.alloc (.cells #[(Value.string ⟨([114, 105, 103, 104, 116, 32]).toArray⟩), (Value.string ⟨([109, 111, 118, 101, 32]).toArray⟩), (Value.string ⟨([108, 101, 102, 116, 32]).toArray⟩)] 9)).cell? ⟨W.heap.size, k, none⟩ = some (Value.string ⟨(stWords.getD k [] ++ [32]).toArray⟩) := fun W => (row_cell (row_new W stepRow 9) k).trans (stepRow_at hk)
    generalize fmtPt p = sa at *
    generalize hsb : stWords.getD k [] ++ [32] = sb at *
    clear hsb
    have hA : Below W.heap.size W W := Below.refl _ _
    have hkI : (k : Int) < 3 := by omega
    have hw1 : IntKind.i64.wrap ((k : Int) - 1 + 1) = k := by rw [show (k : Int) - 1 + 1 = k by omega]; exact IntWalk.i64_in _ (by omega)
    have hw2 : IntKind.i64.wrap (k : Int) = k := IntWalk.i64_in _ (by omega)
    go_wp2_with fail
    go_region_with (first
      | (go_at_call 65
         refine (HCA.out _ ?_).mono ?_
         · first | exact (hA.alloc (Nat.le_refl _) _).drew | exact hA.alloc (Nat.le_refl _) _ | exact hA.drew | exact hA
         rintro e w2 ⟨rfl, hP⟩
         try (have l1 : w2.cell? ⟨W.heap.size, k, none⟩ = some (Value.string ⟨(sb).toArray⟩) := by rw [hP.cell (by simp)]; exact lrow _)
         have hA' : Below W.heap.size W w2 := by
           have hA2 := hA.alloc (Nat.le_refl _) (.cells #[(Value.string ⟨([114, 105, 103, 104, 116, 32]).toArray⟩), (Value.string ⟨([109, 111, 118, 101, 32]).toArray⟩), (Value.string ⟨([108, 101, 102, 116, 32]).toArray⟩)] 9)
           first | exact hA2.drew.trans (hP.mono hA2.drew.size) | exact hA2.trans (hP.mono hA2.size) | exact hA.drew.trans (hP.mono hA.drew.size) | exact hA.trans (hP.mono hA.size)
         have x0 := (hA'.cell (p := ⟨w.heap.size, 0, none⟩) hbk).trans d0
         have hk2 : w.heap.size < w2.heap.size := Nat.lt_of_lt_of_le hbk hA'.size
         clear hP))
    all_goals
      go_wp2_with fail
      go_ret
      refine ⟨congrArg Ending.returned ((str_join2 sb sa).trans (by rw [hf.out])), ?_⟩
      first | exact hbw.trans (hA'.mono hbw.size) | exact (hbw.trans (hA'.mono hbw.size)).alloc (by have := (hbw.trans (hA'.mono hbw.size)).size; simp; omega) _
  · have HO := Lib.hid hok
    rw [decide_eq_false hok]
    clear hok
    go_wp2_with fail
    go_ret
    exact ⟨by unfold fmtWord; rw [if_neg (fun h => HO.out h.2)]; rfl, hbw⟩
end Go.Proofs.YtnpfmmdekjjnjaaGreatDoor
