/- Contracts: natural numbers, integers and fractions as texts. -/
import Derived.Test.YtnpfmmdekjjnjaaGreatDoorFmt
import Derived.Test.YtnpfmmdekjjnjaaGreatDoorAPlain
namespace Go.Proofs.YtnpfmmdekjjnjaaGreatDoor
open Go Go.RowKit Pl

theorem at_below {T e : TypeId} {B b : Nat} {p : Value} {bs : List Value} {w w' : World} (h : Lib.BuilderAt T e B b p bs w) (hb : Below w.heap.size w w') : Lib.BuilderAt T e B b p bs w' := by
  have hlt := h.lt
  obtain ⟨hB, v, hbk, hown, hne⟩ := h
  refine ⟨hB, v, (hb.block b hlt).trans hbk, ?_, hne⟩
  refine World.ownsRow.kept (row := none) hown ⟨hb.os, hb.tape, hb.output, hb.size, fun k hk _ => hb.block k hk⟩ ?_
  cases hv : v.ownBlock <;> simp
theorem BuildV.below {B b : Nat} {l : List UInt8} {w w' : World} (h : BuildV B b l w) (hb : Below w.heap.size w w') : BuildV B b l w' := by
  rcases h with h | h
  · exact .inl (at_below h hb)
  · exact .inr (at_below h hb)

set_option maxHeartbeats 1000000 in
/-- impl.formatNat. -/
theorem formatNat_any (n : Nat) (v : Value) (B : Nat) (w : World) (hw : Std B w) (h : NatV w 0 w.heap.size v n) (hn : (limbs n).length ≤ 200) :
    Calls Tryz.prog 105 #[v] w fun e w' => e = .returned ((Value.string ⟨(Lib.decDigits n).toArray⟩)) ∧ Below w.heap.size w w' := by
  have HW := Lib.hid hw
  clear hw
  have HV := Lib.hid h
  unfold NatV at h
  obtain ⟨p, c, rfl, _, _⟩ := h.form
  have hul := fun i (hi : 0 < n) => fmt_len (n := n) i hi
  have hst := fun i => fmt_step (n := n) (i := i)
  have hsa := fmt_start (n := n)
  have HUL := Lib.hid hul
  have HST := Lib.hid hst
  have HSA := Lib.hid hsa
  clear hul hst hsa
  have HL := fun i (hi : i < (limbs n).length) => h.at_ hi
  rcases Nat.eq_zero_or_pos n with h0 | h0
  · subst h0
    rw [limbs_zero]
    go_enter Tryz.func105, Tryz.ntmps105
    go_wp2_with fail
    go_ret
    exact ⟨by rw [dec_zero]; rfl, Below.refl _ _⟩
  · have hl := limbs_length_pos.2 h0
    have hz : (((limbs n).length : Int) == 0) = false := beq_eq_false_iff_ne.2 (by omega)
    obtain ⟨b, off, rfl, hb, hc⟩ := h.at_ (i := (limbs n).length - 1) (by omega)
    rw [lim_eq] at hc
    have hlt := lim_lt n ((limbs n).length - 1)
    have HS := Lib.hid (HSA.out h0)
    generalize hk : (limbs n).length - 1 = k at *
    have hkk : ((limbs n).length : Int) - 1 = k := by omega
    generalize hx : lim n k = x at *
    have HX := Lib.hid hx
    clear hx
    have hb1 : Below w.heap.size w (w.alloc (.cells #[.pointer none, .slice none 0 0] 78)) := (Below.refl _ _).alloc (Nat.le_refl _) _
    have HSTD := Lib.hid (HW.out.on hb1)
    have HB1 := Lib.hid hb1
    have HBV := Lib.hid (build_start w)
    clear hb1
    go_enter Tryz.func105, Tryz.ntmps105
    go_wp2_with fail
    refine (FormatInt_any x hlt B _ HSTD.out).mono ?_
    rintro e w1 ⟨rfl, hb1⟩
    have hbw1 : Below w.heap.size w w1 := HB1.out.trans (hb1.mono HB1.out.size)
    have HBV1 := Lib.hid (HBV.out.below hb1)
    have hlen0 : (Lib.decDigits x).length ≤ 2000 := by have := HUL.out k h0; rw [← HS.out] at this; omega
    have HLEN0 := Lib.hid hlen0
    clear hb1 HB1 HBV HSTD hlen0
    go_wp2_with fail
    refine (write_any _ _ [] (Lib.decDigits x) w1 HBV1.out (by have := HLEN0.out; simp only [List.length_nil]; omega) hbw1.size).mono ?_
    rintro e w2 ⟨⟨v2, rfl⟩, hbv2, hb2⟩
    have hbw2 := hbw1.trans hb2
    rw [List.nil_append, HS.out] at hbv2
    have HBV2 := Lib.hid hbv2
    clear hb2 hbv2 HBV1 hbw1
    go_wp2_with fail
    go_loopw [4] (fun iv wr => ∃ z : Int, -1 ≤ z ∧ z < k ∧ iv = .int .i64 z ∧ Hid (BuildV w.heap.size w.heap.size (Lib.decDigits (up n (z + 1).toNat)) wr) ∧ Below w.heap.size w wr) (fun iv _ => (intOf iv + 1).toNat)
    case atStart => exact ⟨(k : Int) - 1, by omega, by omega, by go_num, by rw [show ((k : Int) - 1 + 1).toNat = k by omega]; exact HBV2.out, hbw2⟩
    case round =>
      obtain ⟨z, hz1, hzk, rfl, hbv, hbel⟩ := hrel
      clear hbw2 HBV2
      by_cases hz0 : z < 0
      · have hzz : Hid (z = -1) := by show z = -1; omega
        have HT := Lib.hid (build_text _ _ _ wr hbv.out hbel.size)
        go_wp2_with fail
        refine HT.out.mono ?_
        rintro e w3 ⟨rfl, hb3⟩
        go_wp2_with fail
        go_ret
        rw [hzz.out]
        exact ⟨congrArg Ending.returned (by rw [show ((-1 : Int) + 1).toNat = 0 by decide, up_zero]; rfl), hbel.trans hb3⟩
      · obtain ⟨j, rfl⟩ := Int.eq_ofNat_of_zero_le (show 0 ≤ z by omega)
        obtain ⟨b', off', he, hb', hc'⟩ := HL j (by omega)
        injection he with he
        injection he with he1 he2
        subst he1 he2
        have hjs := HST.out j (by omega)
        have hjl := HUL.out (j + 1) h0
        have hcj : wr.cell? ⟨b, off + j, none⟩ = some (.int .i64 (lim n j : Int)) := by rw [hbel.cell hb', hc', lim_eq]
        have hjlt := lim_lt n j
        have hpl := padded_len (n := lim n j) (w := 9) (by decide) hjlt
        rw [show ((j : Int) + 1).toNat = j + 1 by omega] at hbv
        have HSTD := Lib.hid (HW.out.on hbel)
        generalize hx' : lim n j = x' at *
        have HX' := Lib.hid hx'
        clear hx' hc'
        have HJ := Lib.hid hjs
        have HJL := Lib.hid hjl
        have HPL := Lib.hid hpl
        clear hjs hjl hpl
        go_wp2_with fail
        refine (FormatInt_any x' hjlt B wr HSTD.out).mono ?_
        rintro e w3 ⟨rfl, hb3⟩
        go_wp2_with fail
        refine (PadZeros_any x' hjlt w3).mono ?_
        rintro e w4 ⟨rfl, hb4⟩
        have hbr4 := hb3.trans (hb4.mono hb3.size)
        have hbw4 := hbel.trans (hbr4.mono hbel.size)
        have HBV4 := Lib.hid (hbv.out.below hbr4)
        clear hb3 hb4
        go_wp2_with fail
        refine (write_any _ _ (Lib.decDigits (up n (j + 1))) (padded x' 9) w4 HBV4.out (by have := HJL.out; have := HPL.out; omega) hbw4.size).mono ?_
        rintro e w5 ⟨⟨v5, rfl⟩, hbv5, hb5⟩
        have HBV5 := Lib.hid hbv5
        clear hbv5
        go_wp2_with fail
        go_roundw
        case rel => exact ⟨(j : Int) - 1, by omega, by omega, by go_num, by rw [show ((j : Int) - 1 + 1).toNat = j by omega, ← HJ.out]; exact HBV5.out, hbw4.trans hb5⟩
        case measure => simp only [intOf]; omega

set_option maxHeartbeats 1000000 in
/-- spec.FormatNat of a number that is not too long. -/
theorem sFormatNat_any (n : Nat) (v : Value) (w : World) (h : NatV w 0 w.heap.size v n) (hn : (limbs n).length ≤ 60) :
    Calls Tryz.prog 112 #[v] w fun e w' => e = .returned ((Value.string ⟨(Lib.decDigits n).toArray⟩)) ∧ Below w.heap.size w w' := by
  have HV := Lib.hid h
  unfold NatV at h
  obtain ⟨p, c, rfl, _, _⟩ := h.form
  have hul := fun i (hi : 0 < n) => fmt_len (n := n) i hi
  have hst := fun i => fmt_step (n := n) (i := i)
  have hsa := fmt_start (n := n)
  have HUL := Lib.hid hul
  have HST := Lib.hid hst
  have HSA := Lib.hid hsa
  clear hul hst hsa
  have HL := fun i (hi : i < (limbs n).length) => h.at_ hi
  rcases Nat.eq_zero_or_pos n with h0 | h0
  · subst h0
    rw [limbs_zero] at *
    go_enter Tryz.func112, Tryz.ntmps112
    go_wp2_with fail
    refine (sNatOk_any 0 _ w _ HV.out).mono ?_
    rintro e w1 ⟨rfl, hd⟩
    rw [decide_eq_true (by rw [limbs_zero]; exact Nat.zero_le _)]
    go_wp2_with fail
    go_ret
    exact ⟨by rw [dec_zero]; rfl, hd.below⟩
  · have hl := limbs_length_pos.2 h0
    have hz : (((limbs n).length : Int) == 0) = false := beq_eq_false_iff_ne.2 (by omega)
    obtain ⟨b, off, rfl, hb, hc⟩ := h.at_ (i := (limbs n).length - 1) (by omega)
    rw [lim_eq] at hc
    have hlt := lim_lt n ((limbs n).length - 1)
    have HS := Lib.hid (HSA.out h0)
    generalize hk : (limbs n).length - 1 = k at *
    have hkk : ((limbs n).length : Int) - 1 = k := by omega
    generalize hx : lim n k = x at *
    have HX := Lib.hid hx
    clear hx
    go_enter Tryz.func112, Tryz.ntmps112
    go_wp2_with fail
    refine (sNatOk_any n _ w _ HV.out).mono ?_
    rintro e w0 ⟨rfl, hd⟩
    rw [decide_eq_true hn]
    have hbw0 := hd.below
    have hc0 : w0.cell? ⟨b, off + k, none⟩ = some (.int .i64 (x : Int)) := by rw [hbw0.cell hb]; exact hc
    go_wp2_with fail
    refine (sFormatInt_any x hlt w0).mono ?_
    rintro e w1 ⟨rfl, hb1⟩
    have hbw1 : Below w.heap.size w w1 := hbw0.trans (hb1.mono hbw0.size)
    rw [HS.out]
    clear hb1 hbw0 hc0 hd
    go_wp2_with fail
    go_loopw [3, 4] (fun sv iv wr => ∃ z : Int, -1 ≤ z ∧ z < k ∧ iv = .int .i64 z ∧ Hid (sv = (Value.string ⟨(Lib.decDigits (up n (z + 1).toNat)).toArray⟩)) ∧ Below w.heap.size w wr) (fun _ iv _ => (intOf iv + 1).toNat)
    case atStart => exact ⟨(k : Int) - 1, by omega, by omega, by go_num, by rw [show ((k : Int) - 1 + 1).toNat = k by omega]; rfl, hbw1⟩
    case round =>
      obtain ⟨z, hz1, hzk, rfl, hsv, hbel⟩ := hrel
      clear hbw1
      have e := hsv.out
      subst e
      by_cases hz0 : z < 0
      · have hzz : Hid (z = -1) := by show z = -1; omega
        go_wp2_with fail
        go_ret
        rw [hzz.out]
        exact ⟨congrArg Ending.returned (by rw [show ((-1 : Int) + 1).toNat = 0 by decide, up_zero]; rfl), hbel⟩
      · obtain ⟨j, rfl⟩ := Int.eq_ofNat_of_zero_le (show 0 ≤ z by omega)
        obtain ⟨b', off', he, hb', hc'⟩ := HL j (by omega)
        injection he with he
        injection he with he1 he2
        subst he1 he2
        have hjs := HST.out j (by omega)
        have hjl := HUL.out (j + 1) h0
        have hcj : wr.cell? ⟨b, off + j, none⟩ = some (.int .i64 (lim n j : Int)) := by rw [hbel.cell hb', hc', lim_eq]
        have hjlt := lim_lt n j
        have hpl := padded_len (n := lim n j) (w := 9) (by decide) hjlt
        rw [show ((j : Int) + 1).toNat = j + 1 by omega]
        clear hsv
        generalize hx' : lim n j = x' at *
        have HX' := Lib.hid hx'
        clear hx' hc'
        generalize hq : Lib.decDigits (up n (j + 1)) = q at *
        have HQ := Lib.hid hq
        have HJ := Lib.hid hjs
        clear hjs hq
        have hql : q.length ≤ 540 := by omega
        go_wp2_with fail
        refine (sFormatInt_any x' hjlt wr).mono ?_
        rintro e w3 ⟨rfl, hb3⟩
        go_wp2_with fail
        refine (sPadZeros_any x' hjlt w3).mono ?_
        rintro e w4 ⟨rfl, hb4⟩
        have hbr4 := hb3.trans (hb4.mono hb3.size)
        have hbw4 := hbel.trans (hbr4.mono hbel.size)
        clear hb3 hb4
        generalize padded x' 9 = pd at *
        go_wp2_with fail
        go_roundw
        case rel => exact ⟨(j : Int) - 1, by omega, by omega, by go_num, by rw [show ((j : Int) - 1 + 1).toNat = j by omega, ← HJ.out]; exact str_append q pd, hbw4⟩
        case measure => simp only [intOf]; omega
end Go.Proofs.YtnpfmmdekjjnjaaGreatDoor
