/- Contracts over natural numbers as lists of limbs: products. -/
import Derived.Test.YtnpfmmdekjjnjaaGreatDoorNat3
import Derived.Test.YtnpfmmdekjjnjaaGreatDoorAPlain
namespace Go.Proofs.YtnpfmmdekjjnjaaGreatDoor
open Go Go.RowKit Pl

set_option maxHeartbeats 1600000 in
/-- natMul: a product, of any length. -/
theorem natMul_any (m n : Nat) (va vb : Value) (w : World) (ha : NatV w 0 w.heap.size va m) (hb : NatV w 0 w.heap.size vb n) (hm : (limbs m).length ≤ 1000) (hn : (limbs n).length ≤ 1000) :
    Calls Tryz.prog 167 #[va, vb] w fun e w' => ∃ v, e = .returned v ∧ NatV w' w.heap.size w'.heap.size v (m * n) ∧ Below w.heap.size w w' := by
  have oa := okL_limbs m
  have ob := okL_limbs n
  have hend := fun out => mul_end (m := m) (n := n) (out := out)
  have HE := Lib.hid hend
  clear hend
  unfold NatV at ha hb
  generalize limbs m = a at *
  generalize limbs n = b at *
  obtain ⟨p, c, rfl, _, _⟩ := ha.form
  obtain ⟨q, d, rfl, _, _⟩ := hb.form
  go_enter Tryz.func167, Tryz.ntmps167
  go_wp2_with (at_make; refine make_full Tryz.underlying22 info_int w.heap.size _ (a.length + b.length) _ rfl rfl rfl (by omega) (by omega) (Nat.le_refl _) ?_; intro v0 w0 hown0 hb0)
  go_loopw [19] (fun iv wr => ∃ (out : List Int) (i : Nat), i ≤ a.length ∧ iv = .int .i64 i ∧ OwnI 3 wr w.heap.size v0 out ∧ okL out ∧ out.length = a.length + b.length ∧ val out = val (a.take i) * val b ∧ Below w.heap.size w wr) (fun iv _ => a.length - (intOf iv).toNat)
  case atStart => exact ⟨_, 0, Nat.zero_le _, rfl, hown0, okL_replicate _, by simp, by rw [val_replicate]; simp [val], hb0⟩
  case round =>
    obtain ⟨out, i, hi, rfl, hown, hok, hol, hval, hbel⟩ := hrel
    clear hown0 hb0
    rcases Nat.lt_or_ge i a.length with hia | hia
    · obtain ⟨b1, o1, rfl, _, c1⟩ := (ha.on hbel).at_ hia
      have xa := nth_ok oa i
      have hrow := mul_row (a := a) (b := b) (nth a i) hok hol hval
      have HR := Lib.hid hrow
      have HB := Lib.hid hbel
      clear hrow hval hok hol
      obtain ⟨wo, rfl⟩ : ∃ wo : World, wo = wr := ⟨_, rfl⟩
      go_wp2
      go_loopw [8, 9] (fun cv kv wi => ∃ (out' : List Int) (k : Nat) (c' : Int), k ≤ b.length + 1 ∧ kv = .int .i64 k ∧ cv = .int .i64 c' ∧ OwnI 3 wi w.heap.size v0 out' ∧ MulInv a b out' i k (nth a i) c' ∧ Below w.heap.size w wi) (fun _ kv _ => b.length + 2 - (intOf kv).toNat)
      case atStart => exact ⟨out, 0, 0, by omega, rfl, rfl, hown, HR.out, HB.out⟩
      case round =>
        obtain ⟨out', k, c', hk1, rfl, rfl, hown', hinv, hbel'⟩ := hrel
        clear hown hbel c1
        have hms := mul_sum ob hinv xa.1 xa.2
        have hbound := mul_bound oa ob hia hinv
        have hb' := hb.on hbel'
        by_cases hgo : k < b.length ∨ 0 < c'
        · have hkb : k ≤ b.length := by
            rcases Nat.lt_or_ge k b.length with h | h
            · omega
            · exact hbound h (by omega)
          have hik : i + k < out'.length := by rw [hinv.2.1]; omega
          have hikI : (i : Int) + k < (out'.length : Int) := by omega
          have hl63 : out'.length ≤ 3000 := by rw [hinv.2.1]; omega
          obtain ⟨g, cp, rfl, hg1, hg2, cg, fg, hset⟩ := hown'.store hik
          have hstep := fun (s : Int) hs => mul_step (s := s) ob hinv xa.1 xa.2 hik hs
          have hlimb := fun (W : World) (hW : Drew wr W) => limb_any b k _ W wr.heap.size (hb'.drew hW) (by omega)
          have HL := Lib.hid hlimb
          have HS := Lib.hid hstep
          have HT := Lib.hid hset
          have HB' := Lib.hid hbel'
          simp only [B] at xa
          clear hstep hset hlimb hbel' hinv hown' hbound hb'
          have hw1 : IntKind.i64.wrap ((i : Int) + k) = (i : Int) + k := IntWalk.i64_in _ (by omega)
          have hw2 : ((i : Int) + k).toNat = i + k := by omega
          have hw3 : IntKind.i64.wrap (nth a i * nth b k) = nth a i * nth b k := IntWalk.i64_in _ (by omega)
          have hw4 : IntKind.i64.wrap (nth out' (i + k) + nth a i * nth b k) = nth out' (i + k) + nth a i * nth b k := IntWalk.i64_in _ (by omega)
          have hw5 : IntKind.i64.wrap (nth out' (i + k) + nth a i * nth b k + c') = nth out' (i + k) + nth a i * nth b k + c' := IntWalk.i64_in _ (by omega)
          rcases hgo with hgo | hgo
          · go_wp2
            go_quiet ((go_at_call 177; exact quiet1 (as_drew (HL.out _ (Drew.n _ _)))))
            clear hw1 hw2 hw3 hw4 hw5
            go_wp2
            go_roundw
            case rel => exact ⟨_, k + 1, _, by omega, by go_num, rfl, (HT.out _).drewN nq, HS.out _ rfl, HB'.out.trans ((below_drewN _ _).mono HB'.out.size) |>.setCell hg1 _⟩
            case measure => simp only [intOf]; omega
          · rcases Nat.lt_or_ge k b.length with hkb2 | hkb2
            · go_wp2
              go_quiet ((go_at_call 177; exact quiet1 (as_drew (HL.out _ (Drew.n _ _)))))
              clear hw1 hw2 hw3 hw4 hw5
              go_wp2
              go_roundw
              case rel => exact ⟨_, k + 1, _, by omega, by go_num, rfl, (HT.out _).drewN nq, HS.out _ rfl, HB'.out.trans ((below_drewN _ _).mono HB'.out.size) |>.setCell hg1 _⟩
              case measure => simp only [intOf]; omega
            · go_wp2
              go_quiet ((go_at_call 177; exact quiet1 (as_drew (HL.out _ (Drew.n _ _)))))
              clear hw1 hw2 hw3 hw4 hw5
              go_wp2
              go_roundw
              case rel => exact ⟨_, k + 1, _, by omega, by go_num, rfl, (HT.out _).drewN nq, HS.out _ rfl, HB'.out.trans ((below_drewN _ _).mono HB'.out.size) |>.setCell hg1 _⟩
              case measure => simp only [intOf]; omega
        · have hk2 : ¬ k < b.length := fun h => hgo (.inl h)
          have hc2 : ¬ 0 < c' := fun h => hgo (.inr h)
          have HC : Hid (c' = 0) := by show c' = 0; have := hinv.2.2.1; omega
          have HI := Lib.hid hinv
          clear hinv hbound hms hb' hgo
          go_wp2
          go_roundw
          case rel =>
            have e := HC.out
            subst e
            have h := mul_row_end HI.out (by omega)
            exact ⟨out', i + 1, by omega, by go_num, hown', h.1, h.2.1, h.2.2, hbel'⟩
          case measure => simp only [intOf]; omega
    · have HX : Hid (i = a.length) := by show i = a.length; omega
      go_wp2_with (go_at_call 123; refine (trimmed_any out _ _ w.heap.size wr.heap.size hown.ints).mono ?_; rintro e w' ⟨⟨v', rfl, hv'⟩, rfl⟩)
      go_ret
      refine ⟨_, rfl, ?_, hbel⟩
      rw [HE.out out hok (by rw [hval, HX.out])] at hv'
      exact hv'

set_option maxHeartbeats 1600000 in
/-- The reference's product. -/
theorem l02Mul_any (m n : Nat) (va vb : Value) (w : World) (ha : NatV w 0 w.heap.size va m) (hb : NatV w 0 w.heap.size vb n) (hm : (limbs m).length ≤ 1000) (hn : (limbs n).length ≤ 1000) :
    Calls Tryz.prog 150 #[va, vb] w fun e w' => ∃ v, e = .returned v ∧ NatV w' w.heap.size w'.heap.size v (m * n) ∧ Below w.heap.size w w' := by
  have oa := okL_limbs m
  have ob := okL_limbs n
  have hend := fun out => mul_end (m := m) (n := n) (out := out)
  have hz : (limbs m).length = 0 ∨ (limbs n).length = 0 → m * n = 0 := by
    intro h
    rcases h with h | h
    · have := limbs_nil_iff.1 (List.eq_nil_of_length_eq_zero h); simp [this]
    · have := limbs_nil_iff.1 (List.eq_nil_of_length_eq_zero h); simp [this]
  have HE := Lib.hid hend
  have HZ0 := Lib.hid hz
  clear hend hz
  unfold NatV at ha hb
  generalize limbs m = a at *
  generalize limbs n = b at *
  obtain ⟨p, c, rfl, _, _⟩ := ha.form
  obtain ⟨q, d, rfl, _, _⟩ := hb.form
  by_cases hz : a.length = 0 ∨ b.length = 0
  · have HV := Lib.hid (HZ0.out hz)
    rcases Nat.eq_zero_or_pos a.length with h0 | h0
    · have h1 : ((a.length : Int) == 0) = true := by simp [h0]
      clear hz h0
      go_enter Tryz.func150, Tryz.ntmps150
      go_wp2
      go_ret
      exact ⟨_, rfl, by rw [HV.out, NatV, limbs_zero]; exact Ints.nil_ _ _ _, Below.refl _ _⟩
    · have h1 : ((a.length : Int) == 0) = false := by rw [beq_eq_false_iff_ne]; omega
      have h2 : ((b.length : Int) == 0) = true := by rw [beq_iff_eq]; omega
      clear hz h0
      go_enter Tryz.func150, Tryz.ntmps150
      go_wp2
      go_ret
      exact ⟨_, rfl, by rw [HV.out, NatV, limbs_zero]; exact Ints.nil_ _ _ _, Below.refl _ _⟩
  · have hpa : 0 < a.length := by omega
    have hpb : 0 < b.length := by omega
    have h1 : ((a.length : Int) == 0) = false := by rw [beq_eq_false_iff_ne]; omega
    have h2 : ((b.length : Int) == 0) = false := by rw [beq_eq_false_iff_ne]; omega
    clear hz
    go_enter Tryz.func150, Tryz.ntmps150
    go_wp2_with (at_make; refine make_full Tryz.underlying22 info_int w.heap.size _ (a.length + b.length) _ rfl rfl rfl (by omega) (by omega) (Nat.le_refl _) ?_; intro v0 w0 hown0 hb0)
    go_loopw [28] (fun iv wr => ∃ (out : List Int) (i : Nat), i ≤ a.length ∧ iv = .int .i64 i ∧ OwnI 3 wr w.heap.size v0 out ∧ okL out ∧ out.length = a.length + b.length ∧ val out = val (a.take i) * val b ∧ (∀ t, i + b.length ≤ t → nth out t = 0) ∧ Below w.heap.size w wr) (fun iv _ => a.length - (intOf iv).toNat)
    case atStart =>
      refine ⟨_, 0, Nat.zero_le _, rfl, hown0, okL_replicate _, by simp, by rw [val_replicate]; simp [val], fun t _ => ?_, hb0⟩
      rcases Nat.lt_or_ge t (a.length + b.length) with h | h
      · rw [nth_lt (by simpa using h)]; simp
      · exact nth_ge (by simpa using h)
    case round =>
      obtain ⟨out, i, hi, rfl, hown, hok, hol, hval, hzero, hbel⟩ := hrel
      clear hown0 hb0
      rcases Nat.lt_or_ge i a.length with hia | hia
      · obtain ⟨b1, o1, rfl, _, c1⟩ := (ha.on hbel).at_ hia
        have xa := nth_ok oa i
        have hrow := mul_row (a := a) (b := b) (nth a i) hok hol hval
        have HR := Lib.hid hrow
        have HB := Lib.hid hbel
        have HZ := Lib.hid hzero
        clear hrow hval hok hol hzero
        obtain ⟨wo, rfl⟩ : ∃ wo : World, wo = wr := ⟨_, rfl⟩
        go_wp2
        go_loopw [8, 35] (fun cv kv wi => ∃ (out' : List Int) (k : Nat) (c' : Int), k ≤ b.length ∧ kv = .int .i64 k ∧ cv = .int .i64 c' ∧ OwnI 3 wi w.heap.size v0 out' ∧ MulInv a b out' i k (nth a i) c' ∧ (∀ t, i + b.length ≤ t → nth out' t = 0) ∧ Below w.heap.size w wi) (fun _ kv _ => b.length - (intOf kv).toNat)
        case atStart => exact ⟨out, 0, 0, by omega, rfl, rfl, hown, HR.out, HZ.out, HB.out⟩
        case round =>
          obtain ⟨out', k, c', hk1, rfl, rfl, hown', hinv, hzero', hbel'⟩ := hrel
          clear hown hbel c1
          have hms := mul_sum ob hinv xa.1 xa.2
          rcases Nat.lt_or_ge k b.length with hkb | hkb
          · obtain ⟨b2, o2, rfl, _, c2⟩ := (hb.on hbel').at_ hkb
            have hik : i + k < out'.length := by rw [hinv.2.1]; omega
            have hikI : (i : Int) + k < (out'.length : Int) := by omega
            have hl63 : out'.length ≤ 3000 := by rw [hinv.2.1]; omega
            obtain ⟨g, cp, rfl, hg1, hg2, cg, fg, hset⟩ := hown'.store hik
            have hstep := fun (s : Int) hs => mul_step (s := s) ob hinv xa.1 xa.2 hik hs
            have hz2 : ∀ (y : Int) (t : Nat), i + b.length ≤ t → nth (out'.set (i + k) y) t = 0 := fun y t ht => by rw [nth_set_ne (by omega)]; exact hzero' t ht
            have HS := Lib.hid hstep
            have HT := Lib.hid hset
            have HB' := Lib.hid hbel'
            have HZ2 := Lib.hid hz2
            simp only [B] at xa
            clear hstep hset hbel' hinv hown' hz2 hzero'
            go_wp2
            go_roundw
            case rel => exact ⟨_, k + 1, _, by omega, by go_num, rfl, HT.out _, HS.out _ rfl, HZ2.out _, HB'.out.setCell hg1 _⟩
            case measure => simp only [intOf]; omega
          · have HK : Hid (k = b.length) := by show k = b.length; omega
            have hil : i + b.length < out'.length := by rw [hinv.2.1]; omega
            have hilI : (i : Int) + b.length < (out'.length : Int) := by omega
            have hl63 : out'.length ≤ 3000 := by rw [hinv.2.1]; omega
            have hend : okL (out'.set (i + b.length) c') ∧ (out'.set (i + b.length) c').length = a.length + b.length ∧ val (out'.set (i + b.length) c') = val (a.take (i + 1)) * val b := by
              have e := HK.out
              subst e
              exact mul_carry hinv hia (hzero' _ (Nat.le_refl _))
            obtain ⟨g, cp, rfl, hg1, hg2, cg, fg, hset⟩ := hown'.store hil
            have hz2 : ∀ (y : Int) (t : Nat), i + 1 + b.length ≤ t → nth (out'.set (i + b.length) y) t = 0 := fun y t ht => by rw [nth_set_ne (by omega)]; exact hzero' t (by omega)
            have HN := Lib.hid hend
            have HT := Lib.hid hset
            have HB' := Lib.hid hbel'
            have HZ2 := Lib.hid hz2
            clear hend hset hbel' hinv hown' hz2 hzero' hms
            go_wp2
            go_roundw
            case rel => exact ⟨_, i + 1, by omega, by go_num, HT.out _, HN.out.1, HN.out.2.1, HN.out.2.2, HZ2.out _, HB'.out.setCell hg1 _⟩
            case measure => simp only [intOf]; omega
      · have HX : Hid (i = a.length) := by show i = a.length; omega
        go_wp2_with (go_at_call 109; refine (l02Trim_any out _ _ w.heap.size wr.heap.size hown.ints).mono ?_; rintro e w' ⟨⟨v', rfl, hv'⟩, rfl⟩)
        go_ret
        refine ⟨_, rfl, ?_, hbel⟩
        rw [HE.out out hok (by rw [hval, HX.out])] at hv'
        exact hv'

end Go.Proofs.YtnpfmmdekjjnjaaGreatDoor
