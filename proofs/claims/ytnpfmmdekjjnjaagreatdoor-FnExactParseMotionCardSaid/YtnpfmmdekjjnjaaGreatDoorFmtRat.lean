/- Contracts: integers and fractions as texts. -/
import Derived.Test.YtnpfmmdekjjnjaaGreatDoorFmtNat
import Derived.Deep.RegionWith
namespace Go.Proofs.YtnpfmmdekjjnjaaGreatDoor
open Go Go.RowKit Pl

def sgn (neg : Bool) : List UInt8 := if neg then [45] else []
def fmtBig (neg : Bool) (n : Nat) : List UInt8 := sgn neg ++ Lib.decDigits n
def fmtRat (r : Frac) : List UInt8 := if r.den = 1 then fmtBig r.neg r.num else fmtBig r.neg r.num ++ ([47] ++ Lib.decDigits r.den)

theorem dec_short {n : Nat} (h : (limbs n).length ≤ 60) : (Lib.decDigits n).length ≤ 600 := by
  have := dec_len (n := n)
  omega

/-- impl.formatBig. -/
theorem formatBig_any (neg : Bool) (n : Nat) (v : Value) (B : Nat) (w : World) (hw : Std B w) (h : NatV w 0 w.heap.size v n) (hn : (limbs n).length ≤ 60) :
    Calls Tryz.prog 104 #[.agg #[.bool neg, v]] w fun e w' => e = .returned (Value.string ⟨(fmtBig neg n).toArray⟩) ∧ Below w.heap.size w w' := by
  have hb1 : Below w.heap.size w (w.alloc (.cells #[.bool neg, v] 24)) := (Below.refl _ _).alloc (Nat.le_refl _) _
  have HV := Lib.hid (Ints.on h hb1)
  have HW := Lib.hid (hw.on hb1)
  have hd := dec_short hn
  have HC := Lib.hid (formatNat_any n v B _ HW.out HV.out (by omega))
  cases neg with
  | false =>
    go_enter Tryz.func104, Tryz.ntmps104
    go_wp2_with fail
    refine HC.out.mono ?_
    rintro e w1 ⟨rfl, hb2⟩
    go_wp2_with fail
    go_ret
    exact ⟨rfl, hb1.trans (hb2.mono hb1.size)⟩
  | true =>
    go_enter Tryz.func104, Tryz.ntmps104
    go_wp2_with fail
    refine HC.out.mono ?_
    rintro e w1 ⟨rfl, hb2⟩
    have hf : Hid (fmtBig true n = [45] ++ Lib.decDigits n) := rfl
    generalize Lib.decDigits n = s at *
    go_wp2_with fail
    go_ret
    exact ⟨congrArg Ending.returned ((str_append [45] s).trans (by rw [hf.out])), hb1.trans (hb2.mono hb1.size)⟩

/-- spec.FormatBigInt. -/
theorem sFormatBigInt_any (neg : Bool) (n : Nat) (v : Value) (w : World) (h : NatV w 0 w.heap.size v n) (hn : (limbs n).length ≤ 60) (hneg : neg = true → 0 < n) :
    Calls Tryz.prog 111 #[.agg #[.bool neg, v]] w fun e w' => e = .returned (Value.string ⟨(fmtBig neg n).toArray⟩) ∧ Below w.heap.size w w' := by
  have hb1 : Below w.heap.size w (w.alloc (.cells #[.bool neg, v] 24)) := (Below.refl _ _).alloc (Nat.le_refl _) _
  have HV := Lib.hid (Ints.on h hb1)
  have hd := dec_short hn
  have HN := Lib.hid hneg
  clear hneg
  go_enter Tryz.func111, Tryz.ntmps111
  go_wp2_with fail
  refine (sBigIntOk_any neg n v _ HV.out HN.out).mono ?_
  rintro e w1 ⟨rfl, hb2⟩
  rw [decide_eq_true hn]
  have c0 := boxed_on hb2 0
  have c1 := boxed_on hb2 1
  simp only [List.getElem?_toArray, List.getElem?_cons_zero, List.getElem?_cons_succ] at c0 c1
  have HC := Lib.hid (sFormatNat_any n v w1 (Ints.on HV.out hb2) hn)
  have hbw1 := hb1.trans (hb2.mono hb1.size)
  cases neg with
  | false =>
    go_wp2_with fail
    refine HC.out.mono ?_
    rintro e w2 ⟨rfl, hb3⟩
    go_wp2_with fail
    go_ret
    exact ⟨rfl, hbw1.trans (hb3.mono hbw1.size)⟩
  | true =>
    go_wp2_with fail
    refine HC.out.mono ?_
    rintro e w2 ⟨rfl, hb3⟩
    have hf : Hid (fmtBig true n = [45] ++ Lib.decDigits n) := rfl
    generalize Lib.decDigits n = s at *
    go_wp2_with fail
    go_ret
    exact ⟨congrArg Ending.returned ((str_append [45] s).trans (by rw [hf.out])), hbw1.trans (hb3.mono hbw1.size)⟩

theorem fmtBig_short {neg : Bool} {n : Nat} (h : (limbs n).length ≤ 60) : (fmtBig neg n).length ≤ 601 := by
  have := dec_short h
  unfold fmtBig
  rw [List.length_append]
  have : (sgn neg).length ≤ 1 := by cases neg <;> simp [sgn]
  omega
theorem str_join3 (a c b : List UInt8) : Value.string (((⟨a.toArray⟩ : ByteArray) ++ ⟨c.toArray⟩) ++ ⟨b.toArray⟩) = (Value.string ⟨(a ++ (c ++ b)).toArray⟩) := by
  rw [← List.append_assoc]
  rfl

set_option maxHeartbeats 2000000 in
/-- impl.formatRat. -/
theorem formatRat_any (r : Frac) (v : Value) (B : Nat) (w : World) (hw : Std B w) (h : RatV w 0 w.heap.size v r) (hn : (limbs r.num).length ≤ 60) (hd : (limbs r.den).length ≤ 60) :
    Calls Tryz.prog 80 #[v] w fun e w' => e = .returned (Value.string ⟨(fmtRat r).toArray⟩) ∧ Below w.heap.size w w' := by
  obtain ⟨va, vb, rfl, ha, hb, hneg⟩ := h
  obtain ⟨neg, n, d⟩ := r
  simp only at *
  have hb1 : Below w.heap.size w (w.alloc (.cells #[.bool neg, va, vb] 26)) := (Below.refl _ _).alloc (Nat.le_refl _) _
  have hw1 := hw.on hb1
  have ha1 := Ints.on ha hb1
  have hb1' := Ints.on hb hb1
  have HA := Lib.hid ha
  have HB := Lib.hid hb
  have HW1 := Lib.hid hw1
  have HA1 := Lib.hid ha1
  have HB1 := Lib.hid hb1'
  have c0 := boxed w #[.bool neg, va, vb] 26 0
  have c1 := boxed w #[.bool neg, va, vb] 26 1
  have c2 := boxed w #[.bool neg, va, vb] 26 2
  simp only [List.getElem?_toArray, List.getElem?_cons_zero, List.getElem?_cons_succ] at c0 c1 c2
  have hbk : w.heap.size < (w.alloc (.cells #[.bool neg, va, vb] 26)).heap.size := by simp
  have hsz : w.heap.size ≤ (w.alloc (.cells #[.bool neg, va, vb] 26)).heap.size := hb1.size
  go_enter Tryz.func80, Tryz.ntmps80
  go_wp2_with fail
  refine (isOne_any d _ _ _ HB1.out).mono ?_
  rintro e w1 ⟨rfl, rfl⟩
  generalize w.alloc (.cells #[.bool neg, va, vb] 26) = W at *
  by_cases hd1 : d = 1
  · have HD1 := Lib.hid hd1
    rw [decide_eq_true hd1]
    clear hd1
    have HC := Lib.hid (formatBig_any neg n va B W HW1.out HA1.out hn)
    go_wp2_with fail
    refine HC.out.mono ?_
    rintro e w2 ⟨rfl, hb2⟩
    go_wp2_with fail
    go_ret
    refine ⟨?_, hb1.trans (hb2.mono hb1.size)⟩
    unfold fmtRat
    rw [if_pos HD1.out]
    rfl
  · have HD1 := Lib.hid hd1
    rw [decide_eq_false hd1]
    clear hd1
    have HCA : ∀ W', Below W.heap.size W W' → Calls Tryz.prog 104 #[.agg #[.bool neg, va]] W' fun e w' => e = .returned (Value.string ⟨(fmtBig neg n).toArray⟩) ∧ Below W.heap.size W w' := fun W' hW =>
      (formatBig_any neg n va B W' (HW1.out.on hW) (Ints.on HA1.out hW) hn).mono fun e w' ⟨h1, h2⟩ => ⟨h1, hW.trans (h2.mono hW.size)⟩
    have HCB : ∀ W', Below W.heap.size W W' → Calls Tryz.prog 105 #[vb] W' fun e w' => e = .returned (Value.string ⟨(Lib.decDigits d).toArray⟩) ∧ Below W.heap.size W w' := fun W' hW =>
      (formatNat_any d vb B W' (HW1.out.on hW) (Ints.on HB1.out hW) (by omega)).mono fun e w' ⟨h1, h2⟩ => ⟨h1, hW.trans (h2.mono hW.size)⟩
    have hba := fmtBig_short (neg := neg) hn
    have hbd := dec_short hd
    have hf : Hid (fmtRat ⟨neg, n, d⟩ = fmtBig neg n ++ ([47] ++ Lib.decDigits d)) := by
      show _ = _
      unfold fmtRat
      rw [if_neg HD1.out]
    generalize fmtBig neg n = sa at *
    generalize Lib.decDigits d = sb at *
    have HCA' := Lib.hid HCA
    have HCB' := Lib.hid HCB
    clear HCA HCB
    go_wp2_with fail
    go_region_with (first
      | (go_at_call 104
         refine (HCA'.out _ ?_).mono ?_
         · first | exact hb2 | exact hb2.drew | exact (Below.refl _ _).drew | exact Below.refl _ _
         rintro e w2 ⟨rfl, hb2⟩
         have d0 : w2.cell? ⟨w.heap.size, 0, none⟩ = some (.bool neg) := by rw [hb2.cell hbk]; exact c0
         have d1 : w2.cell? ⟨w.heap.size, 1, none⟩ = some va := by rw [hb2.cell hbk]; exact c1
         have d2 : w2.cell? ⟨w.heap.size, 2, none⟩ = some vb := by rw [hb2.cell hbk]; exact c2)
      | (go_at_call 105
         refine (HCB'.out _ ?_).mono ?_
         · first | exact hb2 | exact hb2.drew | exact (Below.refl _ _).drew | exact Below.refl _ _
         rintro e w2 ⟨rfl, hb2⟩
         have d0 : w2.cell? ⟨w.heap.size, 0, none⟩ = some (.bool neg) := by rw [hb2.cell hbk]; exact c0
         have d1 : w2.cell? ⟨w.heap.size, 1, none⟩ = some va := by rw [hb2.cell hbk]; exact c1
         have d2 : w2.cell? ⟨w.heap.size, 2, none⟩ = some vb := by rw [hb2.cell hbk]; exact c2))
    all_goals
      go_wp2_with fail
      go_ret
      exact ⟨congrArg Ending.returned ((str_join3 sa [47] sb).trans (by rw [hf.out])), hb1.trans (hb2.mono hb1.size)⟩
end Go.Proofs.YtnpfmmdekjjnjaaGreatDoor
