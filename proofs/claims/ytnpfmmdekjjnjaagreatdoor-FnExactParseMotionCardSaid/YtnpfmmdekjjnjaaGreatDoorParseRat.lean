/- Contracts: reading a fraction: impl.ParseRat. -/
import Derived.Test.YtnpfmmdekjjnjaaGreatDoorRatPlain
namespace Go.Proofs.YtnpfmmdekjjnjaaGreatDoor
open Go Go.RowKit Pl

theorem size_str (s : List UInt8) : (⟨s.toArray⟩ : ByteArray).size = s.length := by simp [ByteArray.size]

theorem limbs_1 : limbs 1 = [1] := by rw [limbs_pos (by decide), limbs_zero]; rfl
/-- The three rows that ParseRat lays: the integer, the row of a one, the fraction. -/
theorem three_rows (w : World) (neg : Bool) (v : Value) :
    Below w.heap.size w (((w.alloc (.cells #[.bool neg, v] 24)).alloc (.cells #[.int .i64 1] 3)).alloc (.cells #[.bool neg, v, .slice (some ⟨w.heap.size + 1, 0, none⟩) 1 1] 26)) ∧
    OwnR (((w.alloc (.cells #[.bool neg, v] 24)).alloc (.cells #[.int .i64 1] 3)).alloc (.cells #[.bool neg, v, .slice (some ⟨w.heap.size + 1, 0, none⟩) 1 1] 26)) w.heap.size (w.heap.size + 3) (.slice (some ⟨w.heap.size + 1, 0, none⟩) 1 1) (limbs 1) ∧
    (((w.alloc (.cells #[.bool neg, v] 24)).alloc (.cells #[.int .i64 1] 3)).alloc (.cells #[.bool neg, v, .slice (some ⟨w.heap.size + 1, 0, none⟩) 1 1] 26)).heap[w.heap.size + 1 + 1]? = some (.cells #[.bool neg, v, .slice (some ⟨w.heap.size + 1, 0, none⟩) 1 1] 26) ∧
    (((w.alloc (.cells #[.bool neg, v] 24)).alloc (.cells #[.int .i64 1] 3)).alloc (.cells #[.bool neg, v, .slice (some ⟨w.heap.size + 1, 0, none⟩) 1 1] 26)).heap.size = w.heap.size + 3 := by
  have h1 : w.heap.size + 1 = (w.alloc (.cells #[.bool neg, v] 24)).heap.size := by simp
  have h2 : w.heap.size + 1 + 1 = ((w.alloc (.cells #[.bool neg, v] 24)).alloc (.cells #[.int .i64 1] 3)).heap.size := by simp
  refine ⟨(((Below.refl _ _).alloc (Nat.le_refl _) _).alloc (by simp) _).alloc (by simp; omega) _, ⟨?_, ?_⟩, ?_, by simp⟩
  · rw [limbs_1]
    refine OwnI.alloc ?_ _
    have := OwnI.one (base := w.heap.size) 3 (w.alloc (.cells #[.bool neg, v] 24)) 1 (by simp)
    rw [← h1] at this
    exact this
  · intro g hg
    injection hg with hg
    simp at hg
    omega
  · have := row_new ((w.alloc (.cells #[.bool neg, v] 24)).alloc (.cells #[.int .i64 1] 3)) #[.bool neg, v, .slice (some ⟨w.heap.size + 1, 0, none⟩) 1 1] 26
    rw [← h2] at this
    exact this

theorem alloc3 (w : World) (a b c : Obj) : Below w.heap.size w (((w.alloc a).alloc b).alloc c) := (((Below.refl _ _).alloc (Nat.le_refl _) _).alloc (by simp) _).alloc (by simp; omega) _
theorem row_set_other {w : World} {g : Nat} {cs : Array Value} {t : TypeId} (h : w.heap[g]? = some (.cells cs t)) {p : Addr} (hp : g ≠ p.block) (x : Value) : (w.setCell p x).heap[g]? = some (.cells cs t) := by
  rw [Below.heap_setCell w p x g hp]; exact h
theorem OwnR.setOther {w : World} {lo hi : Nat} {v : Value} {l : List Int} (h : OwnR w lo hi v l) {p : Addr} (hp : hi ≤ p.block) (x : Value) : OwnR (w.setCell p x) lo hi v l := by
  refine ⟨World.ownsRow.kept h.1 (grown_set w p x) ?_, h.2⟩
  cases hv : v.ownBlock with
  | none => exact .inl rfl
  | some g =>
    right
    intro e
    have := h.2 g hv
    injection e with e
    omega

set_option maxHeartbeats 600000 in
set_option maxRecDepth 100000 in
theorem ParseRat_any (s : List UInt8) (B : Nat) (w : World) (hw : Std B w) (hl : s.length ≤ 2000000) :
    Calls Tryz.prog 68 #[(Value.string ⟨(s).toArray⟩)] w (ParseRatPost s w) := by
  have hb1 : Below w.heap.size w (w.alloc (.cells #[.bool false, .slice none 0 0, .slice none 0 0] 26)) := (Below.refl _ _).alloc (Nat.le_refl _) _
  have hrow1 := row_new w #[.bool false, .slice none 0 0, .slice none 0 0] 26
  have hsz : w.heap.size < (w.alloc (.cells #[.bool false, .slice none 0 0, .slice none 0 0] 26)).heap.size := by simp
  have hBw := hw.2.2.2
  have hw1 := hw.on hb1
  obtain ⟨m, hm⟩ := hw1.1
  have HCUT := Lib.hid (Tryz.strings_Cut ⟨s.toArray⟩ ⟨#[47]⟩ m (w.alloc (.cells #[.bool false, .slice none 0 0, .slice none 0 0] 26)) (by rw [size_str]; omega) hm)
  have HW1 := Lib.hid hw1
  clear hw hw1 hm
  rcases cut_cases 47 s with ⟨hno, hcut⟩ | ⟨a, b, hno, hs, hcut⟩
  · go_enter Tryz.func68, Tryz.ntmps68
    go_wp2_with fail
    refine HCUT.out.mono ?_
    rintro e w1 ⟨rfl, k1, rfl⟩
    clear HCUT
    rw [hcut]
    have HP := Lib.hid (ParseBigInt_any s ((w.alloc (.cells #[.bool false, .slice none 0 0, .slice none 0 0] 26)).drewN k1) (by omega))
    have hrow1' := row_on hrow1 (below_drewN _ k1)
    have hb1' := hb1.trans ((below_drewN _ k1).mono hb1.size)
    have hw1' := HW1.out.on (below_drewN _ k1)
    have hsz' : w.heap.size < ((w.alloc (.cells #[.bool false, .slice none 0 0, .slice none 0 0] 26)).drewN k1).heap.size := hsz
    clear HW1 hb1 hrow1 hsz
    go_wp2_with fail
    refine HP.out.mono ?_
    rintro e w2 ⟨hb2, ⟨neg, n, v, hbig, rfl, hv⟩ | ⟨hbig, rfl⟩⟩
    · have hrow2 := row_on hrow1' hb2
      have hw2 := hw1'.on hb2
      have hbw2 := hb1'.trans (hb2.mono hb1'.size)
      have hlt2 : w.heap.size < w2.heap.size := Nat.lt_of_lt_of_le hsz' hb2.size
      clear HP hrow1' hw1' hb1'
      generalize (w.alloc (.cells #[.bool false, .slice none 0 0, .slice none 0 0] 26)).drewN k1 = W1 at *
      obtain ⟨p, c, rfl, hpc, hcm⟩ := hv.1.form
      obtain ⟨hb3, hone, hrow3, hsz3⟩ := three_rows w2 neg (.slice p (limbs n).length c)
      have hbw3 := hbw2.trans (hb3.mono hbw2.size)
      have hv3 := hv.below hb3
      have hfr := show FreshRat (((w2.alloc (.cells #[.bool neg, .slice p (limbs n).length c] 24)).alloc (.cells #[.int .i64 1] 3)).alloc (.cells #[.bool neg, .slice p (limbs n).length c, .slice (some ⟨w2.heap.size + 1, 0, none⟩) 1 1] 26)) W1.heap.size (w2.heap.size + 3) (.agg #[.bool neg, .slice p (limbs n).length c, .slice (some ⟨w2.heap.size + 1, 0, none⟩) 1 1]) ⟨neg, n, 1⟩ from ⟨w2.heap.size, _, _, rfl, hb2.size, by omega, hv3, hone, hbig.2.1⟩
      have hrat := hfr.val
      have hrow30 := row_on hrow2 hb3
      have hw3 := hw2.on hb3
      rw [← hsz3] at hrat
      have HR := Lib.hid (RatOk_any ⟨neg, n, 1⟩ _ _ (hrat.wide (Nat.zero_le _) (Nat.le_refl _)) (by show (limbs n).length ≤ 200; have := hbig.2.2; omega) (by show (limbs 1).length ≤ 200; rw [limbs_1]; decide))
      have HFIT := Lib.hid (fun r => fits_whole (r := r) hno)
      have HINJ := Lib.hid (fun r => fits_inj_whole (r := r) hno hbig)
      have HBIG := Lib.hid hbig
      clear hb2 hw2 hrow2 hbw2 hbig
      go_wp2_with fail
      refine HR.out.mono ?_
      rintro e w6 ⟨rfl, hb6⟩
      have hrow6 := row_on hrow3 hb6
      have hrow60 := row_on hrow30 hb6
      have hbw6 := hbw3.trans (hb6.mono hbw3.size)
      have hfr6 := hfr.below hb6
      have hrat6 := hrat.on hb6
      have hw6 := hw3.on hb6
      have hsz6 := hb6.size
      rw [hsz3] at hsz6
      clear HR hfr hb3 hv3 hone hrow3 hrow30 hbw3 hrat hw3 hb6
      generalize ((w2.alloc (.cells #[.bool neg, .slice p (limbs n).length c] 24)).alloc (.cells #[.int .i64 1] 3)).alloc (.cells #[.bool neg, .slice p (limbs n).length c, .slice (some ⟨w2.heap.size + 1, 0, none⟩) 1 1] 26) = W3 at *
      have c0 := row_cell hrow6 0
      have c1 := row_cell hrow6 1
      have c2 := row_cell hrow6 2
      simp only [List.getElem?_toArray, List.getElem?_cons_zero, List.getElem?_cons_succ] at c0 c1 c2
      by_cases hok : Frac.ok ⟨neg, n, 1⟩
      · have HO := Lib.hid hok
        rw [decide_eq_true hok]
        clear hok
        have hfmt : fmtRat ⟨neg, n, 1⟩ = s := ((HFIT.out ⟨neg, n, 1⟩).2 ⟨HO.out, rfl, HBIG.out⟩).2
        have HF := Lib.hid (formatRat_any ⟨neg, n, 1⟩ _ B w6 hw6 (hrat6.wide (Nat.zero_le _) (Nat.le_refl _)) (by have := HBIG.out.2.2; exact this) (by show (limbs 1).length ≤ 60; rw [limbs_1]; decide))
        rw [hfmt] at HF
        have HFMT := Lib.hid hfmt
        clear hfmt
        go_wp2_with fail
        refine HF.out.mono ?_
        rintro e w7 ⟨rfl, hb7⟩
        have hrow7 := row_on hrow6 hb7
        have hrow70 := row_on hrow60 hb7
        have d0 := row_cell hrow7 0
        have d1 := row_cell hrow7 1
        have d2 := row_cell hrow7 2
        have e0 := row_cell hrow70 0
        have e1 := row_cell hrow70 1
        have e2 := row_cell hrow70 2
        have f0 := row_frozen hrow70 0
        have f1 := row_frozen hrow70 1
        have f2 := row_frozen hrow70 2
        simp only [List.getElem?_toArray, List.getElem?_cons_zero, List.getElem?_cons_succ] at d0 d1 d2 e0 e1 e2
        have HRF := Lib.hid (row_set (row_set (row_set hrow70 0 (.bool neg)) 1 (.slice p (limbs n).length c)) 2 (.slice (some ⟨w2.heap.size + 1, 0, none⟩) 1 1))
        have HBF := Lib.hid ((((hbw6.trans (hb7.mono hbw6.size)).setCell (p := ⟨w.heap.size, 0, none⟩) (Nat.le_refl _) (.bool neg)).setCell (p := ⟨w.heap.size, 1, none⟩) (Nat.le_refl _) (.slice p (limbs n).length c)).setCell (p := ⟨w.heap.size, 2, none⟩) (Nat.le_refl _) (.slice (some ⟨w2.heap.size + 1, 0, none⟩) 1 1))
        have HVF := Lib.hid ((((hfr6.below hb7).set (p := ⟨w.heap.size, 0, none⟩) hsz' (.bool neg)).set (p := ⟨w.heap.size, 1, none⟩) hsz' (.slice p (limbs n).length c)).set (p := ⟨w.heap.size, 2, none⟩) hsz' (.slice (some ⟨w2.heap.size + 1, 0, none⟩) 1 1))
        have hsf : w2.heap.size + 3 ≤ w7.heap.size := Nat.le_trans hsz6 hb7.size
        clear hrow7 hrow70 hb7 hfr6 hbw6 hrow6 hrow60 hrat6 hw6 HF c0 c1 c2
        go_wp2_with fail
        refine bodyPost_ret (results_row_tmp rfl _ _ w.heap.size 26 _ (0, 0) _ rfl HRF.out Tryz.underlying26 rfl (by kernel_rfl)) rfl ?_
        exact ⟨HBF.out, .inl ⟨⟨neg, n, 1⟩, _, (HFIT.out ⟨neg, n, 1⟩).2 ⟨HO.out, rfl, HBIG.out⟩, rfl, HVF.out.wide (Nat.le_of_lt hsz') (by simp only [size_setCell]; exact hsf)⟩⟩
      · have HO := Lib.hid hok
        rw [decide_eq_false hok]
        clear hok
        have e0 := row_cell hrow60 0
        have e1 := row_cell hrow60 1
        have e2 := row_cell hrow60 2
        have f0 := row_frozen hrow60 0
        have f1 := row_frozen hrow60 1
        have f2 := row_frozen hrow60 2
        simp only [List.getElem?_toArray, List.getElem?_cons_zero, List.getElem?_cons_succ] at e0 e1 e2
        have HRF := Lib.hid (row_set (row_set (row_set hrow60 0 (.bool false)) 1 (.slice none 0 0)) 2 (.slice none 0 0))
        have HBF := Lib.hid (((hbw6.setCell (p := ⟨w.heap.size, 0, none⟩) (Nat.le_refl _) (.bool false)).setCell (p := ⟨w.heap.size, 1, none⟩) (Nat.le_refl _) (.slice none 0 0)).setCell (p := ⟨w.heap.size, 2, none⟩) (Nat.le_refl _) (.slice none 0 0))
        clear hfr6 hbw6 hrow6 hrow60 hrat6 hw6
        go_wp2_with fail
        refine bodyPost_ret (results_row_tmp rfl _ _ w.heap.size 26 _ (0, 0) _ rfl HRF.out Tryz.underlying26 rfl (by kernel_rfl)) rfl ?_
        refine ⟨HBF.out, .inr ⟨?_, rfl⟩⟩
        rintro ⟨r, hr⟩
        exact HO.out (HINJ.out r hr ▸ hr.1.1)
    · have hrow2 := row_on hrow1' hb2
      have hbw2 := hb1'.trans (hb2.mono hb1'.size)
      have hlt2 : w.heap.size < w2.heap.size := Nat.lt_of_lt_of_le hsz' hb2.size
      clear HP hrow1' hw1' hb1'
      generalize (w.alloc (.cells #[.bool false, .slice none 0 0, .slice none 0 0] 26)).drewN k1 = W1 at *
      have HB := Lib.hid (show ¬ ∃ r, ratFits s r from fun ⟨r, hr⟩ => hbig ⟨r.neg, r.num, ((fits_whole hno).1 hr).2.2⟩)
      have e0 := row_cell hrow2 0
      have e1 := row_cell hrow2 1
      have e2 := row_cell hrow2 2
      have f0 := row_frozen hrow2 0
      have f1 := row_frozen hrow2 1
      have f2 := row_frozen hrow2 2
      simp only [List.getElem?_toArray, List.getElem?_cons_zero, List.getElem?_cons_succ] at e0 e1 e2
      have g1 : w.heap.size < w2.heap.size + 1 := by omega
      have g2 : w.heap.size < w2.heap.size + 1 + 1 := by omega
      have HRF := Lib.hid (row_on (row_set (row_set (row_set hrow2 0 (.bool false)) 1 (.slice none 0 0)) 2 (.slice none 0 0)) (alloc3 _ (.cells #[.bool false, .slice none 0 0] 24) (.cells #[.int .i64 1] 3) (.cells #[.bool false, .slice none 0 0, .slice (some ⟨w2.heap.size + 1, 0, none⟩) 1 1] 26)))
      have HBF := Lib.hid ((((hbw2.setCell (p := ⟨w.heap.size, 0, none⟩) (Nat.le_refl _) (.bool false)).setCell (p := ⟨w.heap.size, 1, none⟩) (Nat.le_refl _) (.slice none 0 0)).setCell (p := ⟨w.heap.size, 2, none⟩) (Nat.le_refl _) (.slice none 0 0)).trans ((alloc3 _ (.cells #[.bool false, .slice none 0 0] 24) (.cells #[.int .i64 1] 3) (.cells #[.bool false, .slice none 0 0, .slice (some ⟨w2.heap.size + 1, 0, none⟩) 1 1] 26)).mono (by simp only [size_setCell]; omega)))
      clear hb2 hrow2 hbw2 hbig
      go_wp2_with fail
      refine bodyPost_ret (results_row_tmp rfl _ _ w.heap.size 26 _ (0, 0) _ rfl HRF.out Tryz.underlying26 rfl (by kernel_rfl)) rfl ?_
      exact And.intro HBF.out (Or.inr (And.intro HB.out rfl))
  · have hab : a.length + b.length + 1 = s.length := by rw [hs, List.length_append, List.length_cons]; omega
    have HS := Lib.hid hs
    have HCT := Lib.hid hcut
    clear hs hcut
    go_enter Tryz.func68, Tryz.ntmps68
    go_wp2_with fail
    refine HCUT.out.mono ?_
    rintro e w1 ⟨rfl, k1, rfl⟩
    clear HCUT
    rw [HCT.out]
    have HP := Lib.hid (ParseBigInt_any a ((w.alloc (.cells #[.bool false, .slice none 0 0, .slice none 0 0] 26)).drewN k1) (by omega))
    have hrow1' := row_on hrow1 (below_drewN _ k1)
    have hb1' := hb1.trans ((below_drewN _ k1).mono hb1.size)
    have hw1' := HW1.out.on (below_drewN _ k1)
    have hsz' : w.heap.size < ((w.alloc (.cells #[.bool false, .slice none 0 0, .slice none 0 0] 26)).drewN k1).heap.size := hsz
    clear HW1 hb1 hrow1 hsz
    go_wp2_with fail
    refine HP.out.mono ?_
    rintro e w2 ⟨hb2, ⟨neg, n, v, hbig, rfl, hv⟩ | ⟨hbig, rfl⟩⟩
    · have hrow2 := row_on hrow1' hb2
      have hw2 := hw1'.on hb2
      have hbw2 := hb1'.trans (hb2.mono hb1'.size)
      have hlt2 : w.heap.size < w2.heap.size := Nat.lt_of_lt_of_le hsz' hb2.size
      clear HP hrow1' hw1' hb1'
      generalize (w.alloc (.cells #[.bool false, .slice none 0 0, .slice none 0 0] 26)).drewN k1 = W1 at *
      obtain ⟨p, c, rfl, hpc, hcm⟩ := hv.1.form
      obtain ⟨hb3, hone, hrow3, hsz3⟩ := three_rows w2 neg (.slice p (limbs n).length c)
      have hbw3 := hbw2.trans (hb3.mono hbw2.size)
      have hv3 := hv.below hb3
      have hrow30 := row_on hrow2 hb3
      have hw3 := hw2.on hb3
      have HN := Lib.hid (ParseNat_any b (((w2.alloc (.cells #[.bool neg, .slice p (limbs n).length c] 24)).alloc (.cells #[.int .i64 1] 3)).alloc (.cells #[.bool neg, .slice p (limbs n).length c, .slice (some ⟨w2.heap.size + 1, 0, none⟩) 1 1] 26)) (by omega))
      have hvsz := hb2.size
      have HBIG := Lib.hid hbig
      clear hb2 hw2 hrow2 hbw2 hbig hone hv
      go_wp2_with fail
      refine HN.out.mono ?_
      rintro e w4 ⟨hb4, ⟨hps, vd, rfl, hvd⟩ | ⟨hps, rfl⟩⟩
      · have hrow4 := row_on hrow3 hb4
        have hrow40 := row_on hrow30 hb4
        have hbw4 := hbw3.trans (hb4.mono hbw3.size)
        have hw4 := hw3.on hb4
        have hv4 := hv3.below hb4
        have hsz4 := hb4.size
        rw [hsz3] at hsz4
        obtain ⟨hdn, h60⟩ := parsable_num hps
        clear HN hb3 hrow3 hrow30 hbw3 hw3 hv3 hps
        rw [hsz3] at hvd
        generalize num b = d at *
        obtain ⟨pd, cd, rfl, hpd, hcd⟩ := hvd.1.form
        have k0 := row_cell hrow4 0
        have k1 := row_cell hrow4 1
        have k2 := row_cell hrow4 2
        have kf := row_frozen hrow4 2
        simp only [List.getElem?_toArray, List.getElem?_cons_zero, List.getElem?_cons_succ] at k0 k1 k2
        have hw5 := hw4.below (Below.setCell (Below.refl B w4) (p := ⟨w2.heap.size + 1 + 1, 2, none⟩) (by show B ≤ w2.heap.size + 1 + 1; omega) (.slice pd (limbs d).length cd))
        have hrow5 := row_set hrow4 2 (.slice pd (limbs d).length cd)
        have hrow50 := row_set_other hrow40 (p := ⟨w2.heap.size + 1 + 1, 2, none⟩) (by show w.heap.size ≠ w2.heap.size + 1 + 1; omega) (.slice pd (limbs d).length cd)
        have hbw5 := hbw4.setCell (p := ⟨w2.heap.size + 1 + 1, 2, none⟩) (by show w.heap.size ≤ w2.heap.size + 1 + 1; omega) (.slice pd (limbs d).length cd)
        have hv5 := hv4.setOther (p := ⟨w2.heap.size + 1 + 1, 2, none⟩) (by show w2.heap.size ≤ w2.heap.size + 1 + 1; omega) (.slice pd (limbs d).length cd)
        have hvd5 := hvd.set (p := ⟨w2.heap.size + 1 + 1, 2, none⟩) (by show w2.heap.size + 1 + 1 < w2.heap.size + 3; omega) (.slice pd (limbs d).length cd)
        have hfr5 := show FreshRat (w4.setCell ⟨w2.heap.size + 1 + 1, 2, none⟩ (.slice pd (limbs d).length cd)) W1.heap.size w4.heap.size (.agg #[.bool neg, .slice p (limbs n).length c, .slice pd (limbs d).length cd]) ⟨neg, n, d⟩ from ⟨w2.heap.size, _, _, rfl, hvsz, by omega, hv5, hvd5.wide (by omega) (Nat.le_refl _), HBIG.out.2.1⟩
        have hrat5 := hfr5.val
        have HR := Lib.hid (RatOk_any ⟨neg, n, d⟩ _ (w4.setCell ⟨w2.heap.size + 1 + 1, 2, none⟩ (.slice pd (limbs d).length cd)) (by have := hrat5.wide (Nat.zero_le _) (Nat.le_refl _); rw [size_setCell]; exact this) (by show (limbs n).length ≤ 200; have := HBIG.out.2.2; omega) (by show (limbs d).length ≤ 200; omega))
        have HINJ := Lib.hid (fun r (hr : ratFits s r) => fits_inj_parts (b := b) hno HBIG.out hdn (HS.out ▸ hr))
        have HDN := Lib.hid hdn
        clear hdn hrow4 hrow40 hbw4 hw4 hv4 hb4 hv5 hvd5 hvd
        go_wp2_with fail
        refine HR.out.mono ?_
        rintro e w6 ⟨rfl, hb6⟩
        have hsz5 := size_setCell w4 ⟨w2.heap.size + 1 + 1, 2, none⟩ (.slice pd (limbs d).length cd)
        clear HR hrat5 k0 k1 k2 kf
        generalize w4.setCell ⟨w2.heap.size + 1 + 1, 2, none⟩ (.slice pd (limbs d).length cd) = W5 at *
        have hrow6 := row_on hrow5 hb6
        have hrow60 := row_on hrow50 hb6
        have hbw6 := hbw5.trans (hb6.mono hbw5.size)
        have hfr6 := hfr5.below hb6
        have hw6 := hw5.on hb6
        have hsz6 := hb6.size
        rw [hsz5] at hsz6
        clear hrow5 hrow50 hbw5 hfr5 hw5 hb6 hsz5
        have c0 : w6.cell? ⟨w2.heap.size + 1 + 1, 0, none⟩ = some (.bool neg) := by rw [row_cell hrow6 0]; rfl
        have c1 : w6.cell? ⟨w2.heap.size + 1 + 1, 1, none⟩ = some (.slice p (limbs n).length c) := by rw [row_cell hrow6 1]; rfl
        have c2 : w6.cell? ⟨w2.heap.size + 1 + 1, 2, none⟩ = some (.slice pd (limbs d).length cd) := by rw [row_cell hrow6 2]; rfl
        by_cases hok : Frac.ok ⟨neg, n, d⟩
        · have HO := Lib.hid hok
          rw [decide_eq_true hok]
          clear hok
          have HF := Lib.hid (formatRat_any ⟨neg, n, d⟩ _ B w6 hw6 (hfr6.val.wide (Nat.zero_le _) hsz6) (HO.out.small.1) (HO.out.small.2))
          by_cases hfe : fmtRat ⟨neg, n, d⟩ = s
          · rw [hfe] at HF
            have HFE := Lib.hid hfe
            clear hfe
            go_wp2_with fail
            refine HF.out.mono ?_
            rintro e w7 ⟨rfl, hb7⟩
            have hrow7 := row_on hrow6 hb7
            have hrow70 := row_on hrow60 hb7
            have d0 : w7.cell? ⟨w2.heap.size + 1 + 1, 0, none⟩ = some (.bool neg) := by rw [row_cell hrow7 0]; rfl
            have d1 : w7.cell? ⟨w2.heap.size + 1 + 1, 1, none⟩ = some (.slice p (limbs n).length c) := by rw [row_cell hrow7 1]; rfl
            have d2 : w7.cell? ⟨w2.heap.size + 1 + 1, 2, none⟩ = some (.slice pd (limbs d).length cd) := by rw [row_cell hrow7 2]; rfl
            have e0 := row_cell hrow70 0
            have e1 := row_cell hrow70 1
            have e2 := row_cell hrow70 2
            have f0 := row_frozen hrow70 0
            have f1 := row_frozen hrow70 1
            have f2 := row_frozen hrow70 2
            simp only [List.getElem?_toArray, List.getElem?_cons_zero, List.getElem?_cons_succ] at e0 e1 e2
            have HRF := Lib.hid (row_set (row_set (row_set hrow70 0 (.bool neg)) 1 (.slice p (limbs n).length c)) 2 (.slice pd (limbs d).length cd))
            have HBF := Lib.hid ((((hbw6.trans (hb7.mono hbw6.size)).setCell (p := ⟨w.heap.size, 0, none⟩) (Nat.le_refl _) (.bool neg)).setCell (p := ⟨w.heap.size, 1, none⟩) (Nat.le_refl _) (.slice p (limbs n).length c)).setCell (p := ⟨w.heap.size, 2, none⟩) (Nat.le_refl _) (.slice pd (limbs d).length cd))
            have HVF := Lib.hid ((((hfr6.below hb7).set (p := ⟨w.heap.size, 0, none⟩) hsz' (.bool neg)).set (p := ⟨w.heap.size, 1, none⟩) hsz' (.slice p (limbs n).length c)).set (p := ⟨w.heap.size, 2, none⟩) hsz' (.slice pd (limbs d).length cd))
            have hsf : w4.heap.size ≤ w7.heap.size := Nat.le_trans hsz6 hb7.size
            clear hrow7 hrow70 hb7 hfr6 hbw6 hrow6 hrow60 hw6 HF c0 c1 c2
            go_wp2_with fail
            refine bodyPost_ret (results_row_tmp rfl _ _ w.heap.size 26 _ (0, 0) _ rfl HRF.out Tryz.underlying26 rfl (by kernel_rfl)) rfl ?_
            exact ⟨HBF.out, .inl ⟨⟨neg, n, d⟩, _, ⟨⟨HO.out, HBIG.out.2.1⟩, HFE.out⟩, rfl, HVF.out.wide (Nat.le_of_lt hsz') (by simp only [size_setCell]; exact hsf)⟩⟩
          · have HFE := Lib.hid hfe
            generalize fmtRat ⟨neg, n, d⟩ = q at hfe HF
            have hqs : (q == s) = false := beq_eq_false_iff_ne.2 hfe
            clear hfe
            go_wp2_with fail
            refine HF.out.mono ?_
            rintro e w7 ⟨rfl, hb7⟩
            have hrow70 := row_on hrow60 hb7
            have hbw7 := hbw6.trans (hb7.mono hbw6.size)
            have e0 := row_cell hrow70 0
            have e1 := row_cell hrow70 1
            have e2 := row_cell hrow70 2
            have f0 := row_frozen hrow70 0
            have f1 := row_frozen hrow70 1
            have f2 := row_frozen hrow70 2
            simp only [List.getElem?_toArray, List.getElem?_cons_zero, List.getElem?_cons_succ] at e0 e1 e2
            have HRF := Lib.hid (row_set (row_set (row_set hrow70 0 (.bool false)) 1 (.slice none 0 0)) 2 (.slice none 0 0))
            have HBF := Lib.hid (((hbw7.setCell (p := ⟨w.heap.size, 0, none⟩) (Nat.le_refl _) (.bool false)).setCell (p := ⟨w.heap.size, 1, none⟩) (Nat.le_refl _) (.slice none 0 0)).setCell (p := ⟨w.heap.size, 2, none⟩) (Nat.le_refl _) (.slice none 0 0))
            clear hrow70 hb7 hbw7 hfr6 hbw6 hrow6 hrow60 hw6 HF c0 c1 c2
            go_wp2_with fail
            refine bodyPost_ret (results_row_tmp rfl _ _ w.heap.size 26 _ (0, 0) _ rfl HRF.out Tryz.underlying26 rfl (by kernel_rfl)) rfl ?_
            refine ⟨HBF.out, .inr ⟨?_, rfl⟩⟩
            rintro ⟨r, hr⟩
            exact HFE.out (HINJ.out r hr ▸ hr.2)
        · have HO := Lib.hid hok
          rw [decide_eq_false hok]
          clear hok
          have e0 := row_cell hrow60 0
          have e1 := row_cell hrow60 1
          have e2 := row_cell hrow60 2
          have f0 := row_frozen hrow60 0
          have f1 := row_frozen hrow60 1
          have f2 := row_frozen hrow60 2
          simp only [List.getElem?_toArray, List.getElem?_cons_zero, List.getElem?_cons_succ] at e0 e1 e2
          have HRF := Lib.hid (row_set (row_set (row_set hrow60 0 (.bool false)) 1 (.slice none 0 0)) 2 (.slice none 0 0))
          have HBF := Lib.hid (((hbw6.setCell (p := ⟨w.heap.size, 0, none⟩) (Nat.le_refl _) (.bool false)).setCell (p := ⟨w.heap.size, 1, none⟩) (Nat.le_refl _) (.slice none 0 0)).setCell (p := ⟨w.heap.size, 2, none⟩) (Nat.le_refl _) (.slice none 0 0))
          clear hfr6 hbw6 hrow6 hrow60 hw6
          go_wp2_with fail
          refine bodyPost_ret (results_row_tmp rfl _ _ w.heap.size 26 _ (0, 0) _ rfl HRF.out Tryz.underlying26 rfl (by kernel_rfl)) rfl ?_
          refine ⟨HBF.out, .inr ⟨?_, rfl⟩⟩
          rintro ⟨r, hr⟩
          exact HO.out (HINJ.out r hr ▸ hr.1.1)
      · have hrow4 := row_on hrow3 hb4
        have hrow40 := row_on hrow30 hb4
        have hbw4 := hbw3.trans (hb4.mono hbw3.size)
        have HNO := Lib.hid (show ¬ ∃ r, ratFits s r from fun ⟨r, hr⟩ => hps (by
          obtain ⟨_, _, h3, h4⟩ := fits_parts (b := b) hno (HS.out ▸ hr)
          exact h3 ▸ parsable_dec h4))
        have k2 := row_cell hrow4 2
        have kf := row_frozen hrow4 2
        simp only [List.getElem?_toArray, List.getElem?_cons_zero, List.getElem?_cons_succ] at k2
        have hrow50 := row_set_other hrow40 (p := ⟨w2.heap.size + 1 + 1, 2, none⟩) (by show w.heap.size ≠ w2.heap.size + 1 + 1; omega) (.slice none 0 0)
        have hbw5 := hbw4.setCell (p := ⟨w2.heap.size + 1 + 1, 2, none⟩) (by show w.heap.size ≤ w2.heap.size + 1 + 1; omega) (.slice none 0 0)
        have e0 := row_cell hrow50 0
        have e1 := row_cell hrow50 1
        have e2 := row_cell hrow50 2
        have f0 := row_frozen hrow50 0
        have f1 := row_frozen hrow50 1
        have f2 := row_frozen hrow50 2
        simp only [List.getElem?_toArray, List.getElem?_cons_zero, List.getElem?_cons_succ] at e0 e1 e2
        have HRF := Lib.hid (row_set (row_set (row_set hrow50 0 (.bool false)) 1 (.slice none 0 0)) 2 (.slice none 0 0))
        have HBF := Lib.hid (((hbw5.setCell (p := ⟨w.heap.size, 0, none⟩) (Nat.le_refl _) (.bool false)).setCell (p := ⟨w.heap.size, 1, none⟩) (Nat.le_refl _) (.slice none 0 0)).setCell (p := ⟨w.heap.size, 2, none⟩) (Nat.le_refl _) (.slice none 0 0))
        clear HN hb3 hrow3 hrow30 hbw3 hw3 hv3 hps hrow4 hrow40 hbw4 hb4 hrow50 hbw5
        go_wp2_with fail
        refine bodyPost_ret (results_row_tmp rfl _ _ w.heap.size 26 _ (0, 0) _ rfl HRF.out Tryz.underlying26 rfl (by kernel_rfl)) rfl ?_
        exact ⟨HBF.out, .inr ⟨HNO.out, rfl⟩⟩
    · have hrow2 := row_on hrow1' hb2
      have hbw2 := hb1'.trans (hb2.mono hb1'.size)
      have hlt2 : w.heap.size < w2.heap.size := Nat.lt_of_lt_of_le hsz' hb2.size
      clear HP hrow1' hw1' hb1'
      generalize (w.alloc (.cells #[.bool false, .slice none 0 0, .slice none 0 0] 26)).drewN k1 = W1 at *
      have HNO := Lib.hid (show ¬ ∃ r, ratFits s r from fun ⟨r, hr⟩ => hbig (by
        obtain ⟨_, h2, _, _⟩ := fits_parts (b := b) hno (HS.out ▸ hr)
        exact ⟨r.neg, r.num, h2⟩))
      obtain ⟨hb3, hone, hrow3, hsz3⟩ := three_rows w2 false (.slice none 0 0)
      have hbw3 := hbw2.trans (hb3.mono hbw2.size)
      have hrow30 := row_on hrow2 hb3
      have HN := Lib.hid (ParseNat_any b (((w2.alloc (.cells #[.bool false, .slice none 0 0] 24)).alloc (.cells #[.int .i64 1] 3)).alloc (.cells #[.bool false, .slice none 0 0, .slice (some ⟨w2.heap.size + 1, 0, none⟩) 1 1] 26)) (by omega))
      clear hb2 hrow2 hbw2 hbig hone
      go_wp2_with fail
      refine HN.out.mono ?_
      rintro e w4 ⟨hb4, ⟨hps, vd, rfl, hvd⟩ | ⟨hps, rfl⟩⟩
      · have hrow4 := row_on hrow3 hb4
        have hrow40 := row_on hrow30 hb4
        have hbw4 := hbw3.trans (hb4.mono hbw3.size)
        generalize num b = d at *
        obtain ⟨pd, cd, rfl, hpd, hcd⟩ := hvd.1.form
        have k2 := row_cell hrow4 2
        have kf := row_frozen hrow4 2
        simp only [List.getElem?_toArray, List.getElem?_cons_zero, List.getElem?_cons_succ] at k2
        have hrow50 := row_set_other hrow40 (p := ⟨w2.heap.size + 1 + 1, 2, none⟩) (by show w.heap.size ≠ w2.heap.size + 1 + 1; omega) (.slice pd (limbs d).length cd)
        have hbw5 := hbw4.setCell (p := ⟨w2.heap.size + 1 + 1, 2, none⟩) (by show w.heap.size ≤ w2.heap.size + 1 + 1; omega) (.slice pd (limbs d).length cd)
        have e0 := row_cell hrow50 0
        have e1 := row_cell hrow50 1
        have e2 := row_cell hrow50 2
        have f0 := row_frozen hrow50 0
        have f1 := row_frozen hrow50 1
        have f2 := row_frozen hrow50 2
        simp only [List.getElem?_toArray, List.getElem?_cons_zero, List.getElem?_cons_succ] at e0 e1 e2
        have HRF := Lib.hid (row_set (row_set (row_set hrow50 0 (.bool false)) 1 (.slice none 0 0)) 2 (.slice none 0 0))
        have HBF := Lib.hid (((hbw5.setCell (p := ⟨w.heap.size, 0, none⟩) (Nat.le_refl _) (.bool false)).setCell (p := ⟨w.heap.size, 1, none⟩) (Nat.le_refl _) (.slice none 0 0)).setCell (p := ⟨w.heap.size, 2, none⟩) (Nat.le_refl _) (.slice none 0 0))
        clear HN hb3 hrow3 hrow30 hbw3 hps hrow4 hrow40 hbw4 hb4 hrow50 hbw5 hvd
        go_wp2_with fail
        refine bodyPost_ret (results_row_tmp rfl _ _ w.heap.size 26 _ (0, 0) _ rfl HRF.out Tryz.underlying26 rfl (by kernel_rfl)) rfl ?_
        exact ⟨HBF.out, .inr ⟨HNO.out, rfl⟩⟩
      · have hrow4 := row_on hrow3 hb4
        have hrow40 := row_on hrow30 hb4
        have hbw4 := hbw3.trans (hb4.mono hbw3.size)
        have k2 := row_cell hrow4 2
        have kf := row_frozen hrow4 2
        simp only [List.getElem?_toArray, List.getElem?_cons_zero, List.getElem?_cons_succ] at k2
        have hrow50 := row_set_other hrow40 (p := ⟨w2.heap.size + 1 + 1, 2, none⟩) (by show w.heap.size ≠ w2.heap.size + 1 + 1; omega) (.slice none 0 0)
        have hbw5 := hbw4.setCell (p := ⟨w2.heap.size + 1 + 1, 2, none⟩) (by show w.heap.size ≤ w2.heap.size + 1 + 1; omega) (.slice none 0 0)
        have e0 := row_cell hrow50 0
        have e1 := row_cell hrow50 1
        have e2 := row_cell hrow50 2
        have f0 := row_frozen hrow50 0
        have f1 := row_frozen hrow50 1
        have f2 := row_frozen hrow50 2
        simp only [List.getElem?_toArray, List.getElem?_cons_zero, List.getElem?_cons_succ] at e0 e1 e2
        have HRF := Lib.hid (row_set (row_set (row_set hrow50 0 (.bool false)) 1 (.slice none 0 0)) 2 (.slice none 0 0))
        have HBF := Lib.hid (((hbw5.setCell (p := ⟨w.heap.size, 0, none⟩) (Nat.le_refl _) (.bool false)).setCell (p := ⟨w.heap.size, 1, none⟩) (Nat.le_refl _) (.slice none 0 0)).setCell (p := ⟨w.heap.size, 2, none⟩) (Nat.le_refl _) (.slice none 0 0))
        clear HN hb3 hrow3 hrow30 hbw3 hps hrow4 hrow40 hbw4 hb4 hrow50 hbw5
        go_wp2_with fail
        refine bodyPost_ret (results_row_tmp rfl _ _ w.heap.size 26 _ (0, 0) _ rfl HRF.out Tryz.underlying26 rfl (by kernel_rfl)) rfl ?_
        exact ⟨HBF.out, .inr ⟨HNO.out, rfl⟩⟩
end Go.Proofs.YtnpfmmdekjjnjaaGreatDoor
