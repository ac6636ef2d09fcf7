/- Contracts: the greatest common divisor. -/
import Derived.Test.YtnpfmmdekjjnjaaGreatDoorNatOk
import Derived.Deep.LoopGhost
namespace Go.Proofs.YtnpfmmdekjjnjaaGreatDoor
open Go Go.RowKit Pl

theorem gcd_turn (a b : Nat) : Nat.gcd b (a % b) = Nat.gcd a b := by
  rw [Nat.gcd_comm a b, Nat.gcd_rec b a, Nat.gcd_comm]

theorem limbs_one {n : Nat} (h0 : 0 < n) (h : n < 1000000000) : limbs n = [(n : Int)] := by
  rw [limbs_pos h0, Nat.mod_eq_of_lt h, Nat.div_eq_of_lt h, limbs_zero]

theorem natGcd_loop {x : Nat} (w : World) (h : x < 1000000000) (h0 : 0 < x) : NatV (w.alloc (.cells #[.int .i64 (x : Int)] 3)) w.heap.size (w.alloc (.cells #[.int .i64 (x : Int)] 3)).heap.size (.slice (some ⟨w.heap.size, 0, none⟩) 1 1) x := by
  unfold NatV
  rw [limbs_one h0 h]
  exact (OwnI.one 3 w (x : Int) (Nat.le_refl _)).ints

set_option maxHeartbeats 1000000 in
/-- natGcd: the result may be the first argument. -/
theorem natGcd_any (m n : Nat) (va vb : Value) (w : World) (ha : NatV w 0 w.heap.size va m) (hb : NatV w 0 w.heap.size vb n) (hm : (limbs m).length ≤ 200) (hn : (limbs n).length ≤ 200) :
    Calls Tryz.prog 125 #[va, vb] w fun e w' => ∃ v, e = .returned v ∧ NatV w' 0 w'.heap.size v (Nat.gcd m n) ∧ Below w.heap.size w w' := by
  go_enter Tryz.func125, Tryz.ntmps125
  go_wp2_with fail
  go_loopg [0, 1] n (fun k va vb wr => ∃ a, Hid (Nat.gcd a k = Nat.gcd m n) ∧ NatV wr 0 wr.heap.size va a ∧ NatV wr 0 wr.heap.size vb k ∧ (limbs a).length ≤ 200 ∧ (limbs k).length ≤ 200 ∧ Below w.heap.size w wr)
  case atStart => exact ⟨m, rfl, ha, hb, hm, hn, Below.refl _ _⟩
  case round =>
    clear ha hb hm hn va vb
    obtain ⟨a, hg, ha, hb, hla, hlk, hbel⟩ := hrel
    have HB := Lib.hid hb
    have HA := Lib.hid ha
    unfold NatV at hb
    obtain ⟨p, c, rfl, _, _⟩ := hb.form
    by_cases h2 : 1 < (limbs gk).length
    · have hk0 : 0 < gk := limbs_length_pos.1 (by omega)
      go_wp2_with fail
      refine (natDiv_any a gk _ _ wr HA.out HB.out hk0 (by omega) (by omega)).mono ?_
      rintro e w1 ⟨v1, u1, rfl, hv1, hu1, hb1⟩
      go_wp2_with fail
      go_roundg (a % gk)
      case measure => exact Nat.mod_lt _ hk0
      case rel => exact ⟨gk, (gcd_turn a gk).trans hg, Ints.on HB.out hb1, hu1, hlk, Nat.le_trans (limbs_mono (Nat.le_of_lt (Nat.mod_lt a hk0))) hlk, hbel.trans (hb1.mono hbel.size)⟩
    · by_cases h0 : (limbs gk).length = 0
      · have H0 : Hid (gk = 0) := limbs_nil_iff.1 (List.eq_nil_of_length_eq_zero h0)
        go_wp2_with fail
        go_ret
        have e := hg.out
        rw [H0.out, Nat.gcd_zero_right] at e
        exact ⟨_, rfl, by rw [← e]; exact HA.out, hbel⟩
      · have H1 : Hid ((limbs gk).length = 1) := by show (limbs gk).length = 1; omega
        obtain ⟨hk9, hknth⟩ := one_limb H1.out
        have hk0 : 0 < gk := limbs_length_pos.1 (by omega)
        obtain ⟨b, off, rfl, _, hc⟩ := hb.at_ (i := 0) (by omega)
        rw [Nat.add_zero, hknth] at hc
        have HN := Lib.hid hknth
        clear hknth
        go_wp2_with fail
        refine (natDivSmall_any a gk _ wr HA.out hk0 hk9 (by omega)).mono ?_
        rintro e w1 ⟨v1, rfl, hv1, hb1⟩
        have hc1 : w1.cell? ⟨b, off, none⟩ = some (.int .i64 (gk : Int)) := by rw [hb1.cell (by assumption)]; exact hc
        have hrlt : a % gk < gk := Nat.mod_lt _ hk0
        have HRG : Hid (Nat.gcd gk (a % gk) = Nat.gcd m n) := (gcd_turn a gk).trans hg
        have hbw1 := hbel.trans (hb1.mono hbel.size)
        generalize a % gk = r at *
        go_wp2_with fail
        go_loopg [8, 9] r (fun k rv nv wr => ∃ x : Nat, nv = .int .i64 x ∧ rv = .int .i64 k ∧ Hid (Nat.gcd x k = Nat.gcd m n) ∧ 0 < x ∧ x < 1000000000 ∧ k < 1000000000 ∧ Below w.heap.size w wr)
        case atStart => exact ⟨gk, rfl, rfl, HRG, hk0, hk9, by omega, hbw1⟩
        case round =>
          obtain ⟨x, rfl, rfl, hgx, hx0, hx9, hk9', hbel2⟩ := hrel
          by_cases hk : 0 < gk
          · have h3 : (x : Int) % gk = ((x % gk : Nat) : Int) := by omega
            have h4 : x % gk < gk := Nat.mod_lt _ hk
            have HG2 : Hid (Nat.gcd gk (x % gk) = Nat.gcd m n) := (gcd_turn x gk).trans hgx
            have HTM : (x : Int).tmod gk = ((x % gk : Nat) : Int) := by rw [Int.tmod_eq_emod_of_nonneg (by omega)]; exact h3
            generalize x % gk = y at *
            go_wp2
            go_quiet (fail)
            go_wp2_with fail
            go_roundg y
            case measure => exact h4
            case rel => exact ⟨gk, rfl, rfl, HG2, hk, hk9', by omega, hbel2.trans ((below_drewN _ _).mono hbel2.size)⟩
          · have H0 : Hid (gk = 0) := by show gk = 0; omega
            go_wp2_with fail
            go_ret
            have e := hgx.out
            rw [H0.out, Nat.gcd_zero_right] at e
            subst e
            exact ⟨_, rfl, Ints.wide (natGcd_loop wr hx9 hx0) (Nat.zero_le _) (Nat.le_refl _), hbel2.trans ((Below.refl _ _).alloc hbel2.size _)⟩

/-- l02Plain: the divisor of two ints. -/
theorem l02Plain_any (m n : Nat) (w : World) (hm : m < 1000000000000000000) (hn : n < 1000000000000000000) :
    Calls Tryz.prog 137 #[.int .i64 m, .int .i64 n] w fun e w' => ∃ v, e = .returned v ∧ NatV w' w.heap.size w'.heap.size v (Nat.gcd m n) ∧ Below w.heap.size w w' := by
  go_enter Tryz.func137, Tryz.ntmps137
  go_wp2_with fail
  go_loopg [0, 1] n (fun k xv yv wr => ∃ x : Nat, xv = .int .i64 x ∧ yv = .int .i64 k ∧ Hid (Nat.gcd x k = Nat.gcd m n) ∧ x < 1000000000000000000 ∧ k < 1000000000000000000 ∧ Drew w wr)
  case atStart => exact ⟨m, rfl, rfl, rfl, hm, hn, Drew.refl _⟩
  case round =>
    obtain ⟨x, rfl, rfl, hgx, hx9, hk9, hd⟩ := hrel
    by_cases hk : 0 < gk
    · have h3 : (x : Int) % gk = ((x % gk : Nat) : Int) := by omega
      have h4 : x % gk < gk := Nat.mod_lt _ hk
      have HG2 : Hid (Nat.gcd gk (x % gk) = Nat.gcd m n) := (gcd_turn x gk).trans hgx
      have HTM : (x : Int).tmod gk = ((x % gk : Nat) : Int) := by rw [Int.tmod_eq_emod_of_nonneg (by omega)]; exact h3
      generalize x % gk = y at *
      go_wp2_with fail
      go_roundg y
      case measure => exact h4
      case rel => exact ⟨gk, rfl, rfl, HG2, hk9, by omega, hd⟩
    · have H0 : Hid (gk = 0) := by show gk = 0; omega
      go_wp2_with fail
      refine (NatOf_any x _ (by omega)).mono ?_
      rintro e w4 ⟨v4, rfl, hv4, hb4⟩
      go_wp2_with fail
      go_ret
      have e := hgx.out
      rw [H0.out, Nat.gcd_zero_right] at e
      rw [e, hd.size] at hv4
      exact ⟨_, rfl, hv4, hd.below.trans (hb4.mono (Nat.le_of_eq hd.size.symm))⟩

theorem drop_val {l : List Int} {i : Nat} (h : i < l.length) : nth l i + B * val (l.drop (i + 1)) = val (l.drop i) := (val_drop_nth h).symm

/-- The spec's greatest int. -/
theorem limbs_max : limbs 9223372036854775807 = [854775807, 223372036, 9] := by
  rw [limbs_pos (by decide), limbs_pos (by decide), limbs_pos (by decide)]
  have : 9223372036854775807 / 1000000000 / 1000000000 / 1000000000 = 0 := by decide
  rw [this, limbs_zero]
  decide

theorem max_ints (w : World) : Ints (w.alloc (.cells #[.int .i64 854775807, .int .i64 223372036, .int .i64 9] 3)) w.heap.size (w.alloc (.cells #[.int .i64 854775807, .int .i64 223372036, .int .i64 9] 3)).heap.size (.slice (some ⟨w.heap.size, 0, none⟩) 3 3) (limbs 9223372036854775807) := by
  rw [limbs_max]
  refine Ints.own (base := w.heap.size) (e := 3) (n := 3) ⟨rfl, .inr ⟨w.heap.size, 3, _, rfl, Nat.le_refl _, heap_alloc_new w _, Nat.le_refl _, by simp only [maxLen]; omega, rfl, rfl⟩⟩ rfl

set_option maxRecDepth 4000 in
/-- NatToInt of a small number. -/
theorem sNatToInt_any (n : Nat) (v : Value) (w : World) (h : NatV w 0 w.heap.size v n) (hn : (limbs n).length ≤ 2) :
    Calls Tryz.prog 136 #[v] w fun e w' => e = .returned (.tuple #[.int .i64 n, .bool true]) ∧ Below w.heap.size w w' := by
  have hlt : (n : Int) < bp 2 := limbs_length_le.1 hn
  replace hlt : (n : Int) < 1000000000000000000 := by simp only [bp, B] at hlt; omega
  have hc := canon_limbs n
  have HV := Lib.hid (val_limbs n)
  have HH := Lib.hid h
  unfold NatV at h
  have hlen := h.len
  unfold maxLen at hlen
  have HC := Lib.hid hc
  obtain ⟨p, c, rfl, _, _⟩ := h.form
  have hcmp : cmpI (n : Int) (9223372036854775807 : Nat) = -1 := cmpI_lt (by omega)
  have HCM := Lib.hid hcmp
  clear hcmp hc
  go_enter Tryz.func136, Tryz.ntmps136
  go_wp2_with fail
  refine (sNatOk_any n _ w _ HH.out).mono ?_
  rintro e w1 ⟨rfl, hd⟩
  have e : decide ((limbs n).length ≤ 60) = true := decide_eq_true (by omega)
  rw [e]
  clear e
  have hb1 : Below w.heap.size w (w1.alloc (.cells #[.int .i64 854775807, .int .i64 223372036, .int .i64 9] 3)) := hd.below.alloc (Nat.le_of_eq hd.size.symm) _
  have hmx := Ints.wide (lo' := 0) (max_ints w1) (Nat.zero_le _) (Nat.le_refl _)
  have hv1 := Ints.on HH.out hb1
  have HB1 := Lib.hid hb1
  have HMX := Lib.hid hmx
  have HV1 := Lib.hid hv1
  clear hb1 hmx hv1
  go_wp2_with fail
  refine (l02Cmp_any n 9223372036854775807 _ _ _ _ HV1.out HMX.out).mono ?_
  rintro e w2 ⟨rfl, hd2⟩
  rw [HCM.out]
  have hb2 := HB1.out.trans (hd2.below.mono HB1.out.size)
  have HB2 := Lib.hid hb2
  have hv2 := HV1.out.drew hd2
  have HLT := Lib.hid hlt
  clear HB1 HMX HV1 hb2 hlt HCM
  go_wp2_with fail
  go_loopw [5, 4] (fun iv nv wr => ∃ (i : Int) (x : Nat), -1 ≤ i ∧ i < (limbs n).length ∧ iv = .int .i64 i ∧ nv = .int .i64 x ∧ Hid ((x : Int) = val ((limbs n).drop (i + 1).toNat)) ∧ wr = w2) (fun iv _ _ => (intOf iv + 1).toNat)
  case atStart => exact ⟨(limbs n).length - 1, 0, by omega, by omega, rfl, rfl, (by rw [show ((limbs n).length - 1 + 1 : Int).toNat = (limbs n).length by omega, List.drop_length]; rfl), rfl⟩
  case round =>
    obtain ⟨i, x, hge, hlti, rfl, rfl, hx, rfl⟩ := hrel
    by_cases h0 : i < 0
    · have HI : Hid (i = -1) := by show i = -1; omega
      clear HLT
      go_wp2_with fail
      go_ret2
      have e := hx.out
      rw [HI.out] at e
      rw [show (-1 + 1 : Int).toNat = 0 by decide, List.drop_zero, HV.out] at e
      obtain rfl : x = n := by omega
      exact ⟨rfl, HB2.out⟩
    · obtain ⟨j, rfl⟩ := Int.eq_ofNat_of_zero_le (show 0 ≤ i by omega)
      have hsum := drop_val (l := limbs n) (i := j) (by omega)
      have hx' := hx.out
      rw [show ((j : Int) + 1).toNat = j + 1 by omega] at hx'
      rw [← hx'] at hsum
      clear hx hx'
      obtain ⟨b, off, rfl, _, hcl⟩ := hv2.at_ (i := j) (by omega)
      have hk := nth_ok HC.out.1 j
      have hlt := HLT.out
      have hle2 : val ((limbs n).drop j) ≤ n := by
        have h1 := val_take_drop (limbs n) j
        have h2 := val_nonneg (okL_take HC.out.1 j)
        have h3 := val_nonneg (okL_drop HC.out.1 j)
        have h4 := bp_pos ((limbs n).take j).length
        rw [HV.out] at h1
        have h5 : 1 * val ((limbs n).drop j) ≤ bp ((limbs n).take j).length * val ((limbs n).drop j) := Int.mul_le_mul_of_nonneg_right (by omega) h3
        omega
      obtain ⟨y, hy⟩ := Int.eq_ofNat_of_zero_le (val_nonneg (okL_drop HC.out.1 j))
      rw [hy] at hsum hle2
      have HY := Lib.hid hy
      clear hy
      unfold B at hsum hk
      generalize hq : nth (limbs n) j = q at *
      clear hq
      have hx9 : (x : Int) < 1000000000 := by omega
      have hxs : (x : Int) * 1000000000 + q = y := by omega
      have HXS := Lib.hid hxs
      clear hsum hxs hle2 hlt
      go_wp2_with fail
      go_roundw
      case rel => exact ⟨(j : Int) - 1, y, by omega, by omega, rfl, by rw [HXS.out], by rw [show ((j : Int) - 1 + 1).toNat = j by omega]; exact HY.out.symm, by trivial⟩
      case measure => simp only [intOf]; omega

set_option maxHeartbeats 1000000 in
/-- l02Gcd. -/
theorem l02Gcd_any (m n : Nat) (va vb : Value) (w : World) (ha : NatV w 0 w.heap.size va m) (hb : NatV w 0 w.heap.size vb n) (hm : (limbs m).length ≤ 200) (hn : (limbs n).length ≤ 200) :
    Calls Tryz.prog 115 #[va, vb] w fun e w' => ∃ v, e = .returned v ∧ NatV w' 0 w'.heap.size v (Nat.gcd m n) ∧ Below w.heap.size w w' := by
  have HA := Lib.hid ha
  have HB := Lib.hid hb
  unfold NatV at ha hb
  obtain ⟨p, c, rfl, _, _⟩ := ha.form
  obtain ⟨q, d, rfl, _, _⟩ := hb.form
  have hb0 : Below w.heap.size w (w.alloc (.cells #[] 3)) := (Below.refl _ _).alloc (Nat.le_refl _) _
  have ha0 := Ints.below ha hb0 (Nat.le_refl _)
  have HB0 := Lib.hid hb0
  have HA0 := Lib.hid ha0
  have ho0 := Lib.hid (OwnI.made 3 w #[] 0 (Nat.le_refl _) (Nat.zero_le _) rfl)
  clear hb0 ha0 ha
  go_enter Tryz.func115, Tryz.ntmps115
  go_wp2_with (at_builtin; first
    | (refine append_ints Tryz.underlying22 info_int (base := w.heap.size) _ _ _ _ _ _ rfl rfl rfl ho0.out rfl HA0.out (by simp; omega) (by simp) ?_
       intro v1 w1 hown1 hg1 hb1
       have hbw1 : Below w.heap.size w w1 := HB0.out.trans hb1
       have hown1' := OwnI.made 3 w1 #[] 0 (Nat.le_refl _) (Nat.zero_le _) rfl
       have hb1' := Ints.below (Ints.below HB.out hbw1 (Nat.le_refl _)) ((Below.refl w1.heap.size w1).alloc (Nat.le_refl _) (.cells #[] 3)) hbw1.size)
    | (refine append_ints Tryz.underlying22 info_int (base := w1.heap.size) _ _ _ _ _ _ rfl rfl rfl hown1' rfl hb1' (by simp; omega) (by simp) ?_
       intro v2 w2 hown2 hg2 hb2))
  have hbw2 : Below w.heap.size w w2 := (hbw1.alloc hbw1.size _).trans (hb2.mono hbw1.size)
  have hx2 : NatV w2 0 w2.heap.size v1 m := (Ints.below hown1.ints (((Below.refl w1.heap.size w1).alloc (Nat.le_refl _) _).trans hb2) (Nat.le_refl _)).wide (Nat.zero_le _) (Nat.le_trans (by simp) hb2.size)
  have hy2 : NatV w2 0 w2.heap.size v2 n := hown2.ints.wide (Nat.zero_le _) (Nat.le_refl _)
  clear hown1 hg1 hb1 hbw1 hown1' hb1' hown2 hg2 hb2 HA0 HB0 ho0 hb HA HB
  go_loopg [5, 6] n (fun k va vb wr => ∃ a, Hid (Nat.gcd a k = Nat.gcd m n) ∧ NatV wr 0 wr.heap.size va a ∧ NatV wr 0 wr.heap.size vb k ∧ (limbs a).length ≤ 200 ∧ (limbs k).length ≤ 200 ∧ Below w.heap.size w wr)
  case atStart => exact ⟨m, rfl, hx2, hy2, hm, hn, hbw2⟩
  case round =>
    clear hx2 hy2 hm hn
    obtain ⟨a, hg, ha, hb, hla, hlk, hbel⟩ := hrel
    have HB := Lib.hid hb
    have HA := Lib.hid ha
    unfold NatV at ha hb
    obtain ⟨p', c', rfl, _, _⟩ := ha.form
    obtain ⟨q', d', rfl, _, _⟩ := hb.form
    by_cases h0 : 0 < (limbs gk).length
    · have hk0 : 0 < gk := limbs_length_pos.1 h0
      by_cases h3 : (limbs a).length < 3 ∧ (limbs gk).length < 3
      · obtain ⟨h3a, h3b⟩ := h3
        have na : a < 1000000000000000000 := by
          have := limbs_length_le (n := a) (k := 2) |>.1 (by omega)
          simp only [bp, B] at this; omega
        have nk : gk < 1000000000000000000 := by
          have := limbs_length_le (n := gk) (k := 2) |>.1 (by omega)
          simp only [bp, B] at this; omega
        have NA := Lib.hid na
        have NK := Lib.hid nk
        clear na nk
        go_wp2_with fail
        refine (sNatToInt_any a _ wr HA.out (by omega)).mono ?_
        rintro e w3 ⟨rfl, hb3⟩
        have HB3 := Lib.hid (Ints.on HB.out hb3)
        have hbw3 := hbel.trans (hb3.mono hbel.size)
        go_wp2_with fail
        refine (sNatToInt_any gk _ w3 HB3.out (by omega)).mono ?_
        rintro e w4 ⟨rfl, hb4⟩
        have hbw4 := hbw3.trans (hb4.mono hbw3.size)
        go_wp2_with fail
        refine (l02Plain_any a gk w4 NA.out NK.out).mono ?_
        rintro e w5 ⟨v5, rfl, hv5, hb5⟩
        go_wp2_with fail
        go_ret
        exact ⟨_, rfl, by rw [← hg.out]; exact hv5.wide (Nat.zero_le _) (Nat.le_refl _), hbw4.trans (hb5.mono hbw4.size)⟩
      · have key : ∀ P : Prop, (3 ≤ (limbs a).length → P) → (((limbs a).length < 3 ∧ 3 ≤ (limbs gk).length) → P) → P := by
          intro P h1 h2
          rcases Nat.lt_or_ge (limbs a).length 3 with h | h
          · exact h2 ⟨h, by omega⟩
          · exact h1 h
        clear h3
        apply key
        · intro h3
          clear key
          go_wp2_with fail
          refine (l02Div_any a gk _ _ wr HA.out HB.out hk0 (by omega) (by omega)).mono ?_
          rintro e w1 ⟨v1, u1, rfl, hv1, hu1, hb1⟩
          go_wp2_with fail
          go_roundg (a % gk)
          case measure => exact Nat.mod_lt _ hk0
          case rel => exact ⟨gk, (gcd_turn a gk).trans hg, Ints.on HB.out hb1, hu1, hlk, Nat.le_trans (limbs_mono (Nat.le_of_lt (Nat.mod_lt a hk0))) hlk, hbel.trans (hb1.mono hbel.size)⟩
        · rintro ⟨h3, h4⟩
          clear key
          go_wp2_with fail
          refine (l02Div_any a gk _ _ wr HA.out HB.out hk0 (by omega) (by omega)).mono ?_
          rintro e w1 ⟨v1, u1, rfl, hv1, hu1, hb1⟩
          go_wp2_with fail
          go_roundg (a % gk)
          case measure => exact Nat.mod_lt _ hk0
          case rel => exact ⟨gk, (gcd_turn a gk).trans hg, Ints.on HB.out hb1, hu1, hlk, Nat.le_trans (limbs_mono (Nat.le_of_lt (Nat.mod_lt a hk0))) hlk, hbel.trans (hb1.mono hbel.size)⟩
    · have H0 : Hid (gk = 0) := limbs_nil_iff.1 (List.eq_nil_of_length_eq_zero (by omega))
      go_wp2_with fail
      go_ret
      have e := hg.out
      rw [H0.out, Nat.gcd_zero_right] at e
      exact ⟨_, rfl, by rw [← e]; exact HA.out, hbel⟩
end Go.Proofs.YtnpfmmdekjjnjaaGreatDoor
