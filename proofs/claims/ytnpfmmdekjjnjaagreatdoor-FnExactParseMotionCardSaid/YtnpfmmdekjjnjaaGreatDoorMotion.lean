/- Contracts: reading a motion: impl.ParseMotion. -/
import Derived.Test.YtnpfmmdekjjnjaaGreatDoorSteps
import Derived.Test.YtnpfmmdekjjnjaaGreatDoorFmtStepS
namespace Go.Proofs.YtnpfmmdekjjnjaaGreatDoor
open Go Go.RowKit Pl

/-- What a step's cells say. -/
def isD (x : StepT) (d : StepD) : Prop := d.z = (x.1 : Int) + -1 ∧ d.sx = x.2.x.neg ∧ d.sy = x.2.y.neg ∧ d.l1 = limbs x.2.x.num ∧ d.l2 = limbs x.2.x.den ∧ d.l3 = limbs x.2.y.num ∧ d.l4 = limbs x.2.y.den
def AllD : List StepT → List StepD → Prop
  | [], [] => True
  | x :: l, d :: ds => isD x d ∧ AllD l ds
  | _, _ => False
theorem AllD.len : ∀ {l : List StepT} {ds : List StepD}, AllD l ds → l.length = ds.length
  | [], [], _ => rfl
  | _ :: _, _ :: _, h => by simp [AllD.len h.2]
theorem AllD.snoc : ∀ {l : List StepT} {ds : List StepD} {x : StepT} {d : StepD}, AllD l ds → isD x d → AllD (l ++ [x]) (ds ++ [d])
  | [], [], _, _, _, h => ⟨h, trivial⟩
  | _ :: _, _ :: _, _, _, h, h' => ⟨h.1, AllD.snoc h.2 h'⟩
/-- What ParseMotion hands back. -/
def MoPost (t : List UInt8) (w : World) (e : Ending) (w' : World) : Prop :=
  Below w.heap.size w w' ∧ ((∃ l ds v, moFits t l ∧ AllD l ds ∧ e = .returned (.tuple #[v, .bool true]) ∧ Steps w' w.heap.size w'.heap.size v ds) ∨
    ((¬ ∃ l, moFits t l) ∧ e = .returned (.tuple #[.slice none 0 0, .bool false])))
theorem suffix_iff (t : List UInt8) : Lib.hasSuffix t [10] = true ↔ ∃ u, t = u ++ [10] := by
  unfold Lib.hasSuffix
  rw [List.isSuffixOf_iff_suffix]
  constructor
  · rintro ⟨u, rfl⟩; exact ⟨u, rfl⟩
  · rintro ⟨u, rfl⟩; exact ⟨u, rfl⟩
theorem piece_short (c : UInt8) (s : List UInt8) : ∀ x ∈ split1 c s, x.length ≤ s.length := by
  rcases cut_cases c s with ⟨h, _⟩ | ⟨a, b, h, hs, _⟩
  · rw [split1_none h]; intro x hx; rw [List.mem_singleton] at hx; subst hx; exact Nat.le_refl _
  · have ih := piece_short c b
    subst hs
    rw [split1_hit h]
    intro x hx
    rw [List.length_append, List.length_cons]
    rcases List.mem_cons.1 hx with rfl | hx
    · omega
    · have := ih x hx; omega
termination_by s.length
decreasing_by all_goals (simp_all <;> omega)
theorem line_short (t : List UInt8) {x : List UInt8} (h : x ∈ linesOf t) : x.length ≤ t.length := by
  unfold linesOf dropLastNil at h
  split at h
  · exact piece_short 10 t x ((List.dropLast_sublist _).subset h)
  · exact piece_short 10 t x h
theorem lines_count (t : List UInt8) : (linesOf t).length ≤ t.length + 1 := by
  have := split1_len 10 t
  unfold linesOf dropLastNil
  split
  · rw [List.length_dropLast]; omega
  · exact this
/-- What the loops keep: the first lines are these steps. -/
def LinesAre (t : List UInt8) (i : Nat) (l : List StepT) : Prop := (linesOf t).take i = l.map stepText ∧ ∀ x ∈ l, stepGood x
theorem LinesAre.start (t : List UInt8) : LinesAre t 0 [] := ⟨by simp, fun _ h => by cases h⟩
theorem LinesAre.len {t : List UInt8} {i : Nat} {l : List StepT} (h : LinesAre t i l) (hi : i ≤ (linesOf t).length) : l.length = i := by
  have := congrArg List.length h.1
  rw [List.length_take, List.length_map] at this
  omega
theorem LinesAre.next {t : List UInt8} {i : Nat} {l : List StepT} (h : LinesAre t i l) (hi : i < (linesOf t).length) {k : Nat} {p : Pt} (hf : wordFits stWords ((linesOf t).getD i []) k p) : LinesAre t (i + 1) (l ++ [(k, p)]) := by
  obtain ⟨hg, he⟩ := wordFits_step.1 hf
  refine ⟨?_, ?_⟩
  · rw [List.take_add_one, h.1, List.getElem?_eq_getElem hi, List.map_append, List.map_singleton, he]
    simp [List.getD, hi]
  · intro x hx
    rcases List.mem_append.1 hx with hx | hx
    · exact h.2 x hx
    · rw [List.mem_singleton] at hx; subst hx; exact hg
theorem LinesAre.bad {t : List UInt8} {i : Nat} (hi : i < (linesOf t).length) (hf : ¬ ∃ k p, wordFits stWords ((linesOf t).getD i []) k p) : ¬ ∃ l, moFits t l := by
  rintro ⟨l, hg, _, he⟩
  have h1 := linesOf_moText l
  rw [he] at h1
  have hl : i < l.length := by rw [h1, List.length_map] at hi; exact hi
  apply hf
  refine ⟨l[i].1, l[i].2, wordFits_step.2 ⟨hg _ (List.getElem_mem hl), ?_⟩⟩
  rw [h1]
  simp [List.getD, hl]
theorem LinesAre.long {t : List UInt8} (hi : 60 < (linesOf t).length) : ¬ ∃ l, moFits t l := by
  rintro ⟨l, _, h60, he⟩
  have h1 := linesOf_moText l
  rw [he] at h1
  rw [h1, List.length_map] at hi
  omega
theorem LinesAre.done {u : List UInt8} {l : List StepT} (h : LinesAre (u ++ [10]) (linesOf (u ++ [10])).length l) (h60 : (linesOf (u ++ [10])).length ≤ 60) : moFits (u ++ [10]) l := by
  have hl := h.len (Nat.le_refl _)
  refine ⟨h.2, by omega, ?_⟩
  have := h.1
  rw [List.take_length] at this
  exact (lines_nl this).symm
theorem str_step : (9 : TypeId) ≠ 37 := by decide

set_option maxHeartbeats 4000000 in
set_option maxRecDepth 100000 in
theorem ParseMotion_any (t : List UInt8) (B : Nat) (w : World) (hw : Std B w) (hl : t.length ≤ 1048576) :
    Calls Tryz.prog 20 #[(Value.string ⟨(t).toArray⟩)] w (MoPost t w) := by
  by_cases ht : t = []
  · subst ht
    have HB := Lib.hid (Below.refl w.heap.size w)
    go_enter Tryz.func20, Tryz.ntmps20
    go_wp2_with fail
    go_ret2
    exact ⟨HB.out, .inl ⟨[], [], _, ⟨(fun _ h => by cases h), by simp, rfl⟩, trivial, rfl, Steps.nil_ _ _ _ (Nat.le_refl _)⟩⟩
  have htb : (t == ([] : List UInt8)) = false := beq_eq_false_iff_ne.2 ht
  have HSUF := Lib.hid (Tryz.strings_HasSuffix ⟨t.toArray⟩ ⟨#[10]⟩ w (by rw [size_str]; omega))
  by_cases hs : Lib.hasSuffix t [10] = true
  · obtain ⟨u, hu⟩ := (suffix_iff t).1 hs
    have HU := Lib.hid hu
    have hb1 : Below w.heap.size w (w.alloc (.cells #[] 37)) := (Below.refl _ _).alloc (Nat.le_refl _) _
    have HL := Lib.hid (SplitLines_any t B _ (hw.on hb1) (by omega))
    have HST := Lib.hid (Steps.made w w.heap.size (Nat.le_refl _))
    have HSF : Hid (Calls Tryz.prog 49 #[(Value.string ⟨(t).toArray⟩), (Value.string ⟨([10]).toArray⟩)] w fun e w' => e = .returned (.bool true) ∧ w = w') := HSUF.out.mono fun e w' ⟨h1, h2⟩ => ⟨by rw [h1]; exact congrArg (fun b => Ending.returned (.bool b)) hs, h2.symm⟩
    have HW := Lib.hid hw
    have HB1 := Lib.hid hb1
    have hlt1 : w.heap.size < (w.alloc (.cells #[] 37)).heap.size := by simp
    clear hu hb1 HSUF hs hw ht
    go_enter Tryz.func20, Tryz.ntmps20
    go_wp2_with fail
    refine HSF.out.mono ?_
    rintro e w' ⟨rfl, rfl⟩
    clear HSF
    go_wp2_with fail
    refine HL.out.mono ?_
    rintro e w1 ⟨v, rfl, hlin, hb2⟩
    obtain ⟨g, c, rfl, hc1, hc2, hbg, hrw, hcell⟩ := hlin
    have HLIN := Lib.hid (show LinesIn w1 (w.alloc (.cells #[] 37)).heap.size (.slice (some ⟨g, 0, none⟩) (linesOf t).length c) (linesOf t) from ⟨g, c, rfl, hc1, hc2, hbg, hrw, hcell⟩)
    have HST1 := Lib.hid (HST.out.below hb2)
    have HBW := Lib.hid (HB1.out.trans (hb2.mono HB1.out.size))
    have hsz1 : w.heap.size ≤ w1.heap.size := HBW.out.size
    have hcount := lines_count t
    clear hcell hrw hbg HL HST HB1 hb2
    generalize hn : (linesOf t).length = n at *
    have HN := Lib.hid hn
    clear hn
    go_wp2_with fail
    go_loopw [4, 18] (fun ov iv wr => ∃ (i : Nat) (l : List StepT) (ds : List StepD) (E : Nat), iv = .int .i64 i ∧ i ≤ n ∧ i ≤ 60 ∧ ds.length = i ∧ Hid (LinesAre t i l) ∧ Hid (AllD l ds) ∧ Hid (Steps wr w.heap.size E ov ds) ∧ E ≤ wr.heap.size ∧
      Hid (LinesIn wr (w.alloc (.cells #[] 37)).heap.size (.slice (some ⟨g, 0, none⟩) n c) (linesOf t)) ∧ Hid (Below w.heap.size w wr)) (fun _ iv _ => n - (intOf iv).toNat)
    case atStart => exact ⟨0, [], [], w.heap.size, rfl, Nat.zero_le _, Nat.zero_le _, rfl, LinesAre.start t, trivial, HST1.out, hsz1, HLIN.out, HBW.out⟩
    case round =>
      obtain ⟨i, l, ds, E, rfl, hi, hi60, hdl, HLA, HAD, HSS, hE, HLI, HBL⟩ := hrel
      clear HLIN HST1 HBW
      rcases Nat.lt_or_ge i n with hk | hk
      · have HK : Hid (i < (linesOf t).length) := by show i < _; rw [HN.out]; exact hk
        have hcl : wr.cell? ⟨g, i, none⟩ = some (Value.string ⟨((linesOf t).getD i []).toArray⟩) := by
          obtain ⟨g', c', e, _, _, _, _, h6⟩ := HLI.out
          injection e with e1 _ _
          injection e1 with e1
          injection e1 with e1 _ _
          subst e1
          exact h6 i HK.out
        have hsh : ((linesOf t).getD i []).length ≤ 1048576 := by
          have hm : (linesOf t).getD i [] ∈ linesOf t := by
            rw [List.getD_eq_getElem?_getD, List.getElem?_eq_getElem HK.out]
            exact List.getElem_mem HK.out
          have := line_short t hm
          omega
        have HNX := Lib.hid (fun (k : Nat) (p : Pt) (hf : wordFits stWords ((linesOf t).getD i []) k p) => HLA.out.next HK.out hf)
        have HBAD := Lib.hid (fun (hf : ¬ ∃ k p, wordFits stWords ((linesOf t).getD i []) k p) => LinesAre.bad HK.out hf)
        generalize (linesOf t).getD i [] = line at hcl hsh HNX HBAD
        have hil : (i : Int) < n := by omega
        have HP := Lib.hid (ParseStep_any line B wr (HW.out.below (HBL.out.mono HW.out.2.2.2)) (by omega))
        go_wp2_with fail
        refine HP.out.mono ?_
        rintro e w2 hp
        obtain ⟨ok, z, sx, sy, p1, n1, c1, p2, n2, c2, q1, m1, d1, q2, m2, d2, l1, l2, l3, l4, his, rfl, hq, hb⟩ := hp.is
        clear hp HP hcl
        have hlen2 := hb.size
        have hbA : Below w2.heap.size w2 (w2.alloc (.cells #[.int .i64 z, .bool sx, .slice p1 n1 c1, .slice p2 n2 c2, .bool sy, .slice q1 m1 d1, .slice q2 m2 d2] 37)) := (Below.refl _ _).alloc (Nat.le_refl _) _
        have HSS2 := Lib.hid ((HSS.out.below hb).below hbA)
        have HQ2 := Lib.hid (hq.below hbA)
        have HLI2 := Lib.hid ((HLI.out.below hb).below hbA)
        have HBL2 := Lib.hid ((HBL.out.trans (hb.mono HBL.out.size)).trans (hbA.mono (HBL.out.trans (hb.mono HBL.out.size)).size))
        have hszA : (w2.alloc (.cells #[.int .i64 z, .bool sx, .slice p1 n1 c1, .slice p2 n2 c2, .bool sy, .slice q1 m1 d1, .slice q2 m2 d2] 37)).heap.size = w2.heap.size + 1 := by simp
        have HIS := Lib.hid his
        have hbw := (HBL.out.trans (hb.mono HBL.out.size))
        have HBW2 := Lib.hid hbw
        clear HSS HLI HBL hb hbA his hq hbw
        by_cases hok : ok = true ∧ i < 60
        · obtain ⟨rfl, hi60'⟩ := hok
          obtain ⟨k, p, hf, hz, hsx, hsy, hl1, hl2, hl3, hl4⟩ : ∃ k p, wordFits stWords line k p ∧ z = (k : Int) + -1 ∧ sx = p.x.neg ∧ sy = p.y.neg ∧ l1 = limbs p.x.num ∧ l2 = limbs p.x.den ∧ l3 = limbs p.y.num ∧ l4 = limbs p.y.den := by
            rcases HIS.out with ⟨k, p, hf, _, h1, h2, h3, h4, h5, h6, h7⟩ | ⟨_, h, _⟩
            · exact ⟨k, p, hf, h1, h2, h3, h4, h5, h6, h7⟩
            · cases h
          have HD : Hid (isD (k, p) ⟨z, sx, sy, .slice p1 n1 c1, .slice p2 n2 c2, .slice q1 m1 d1, .slice q2 m2 d2, l1, l2, l3, l4⟩) := ⟨hz, hsx, hsy, hl1, hl2, hl3, hl4⟩
          have HF := Lib.hid hf
          clear hz hsx hsy hl1 hl2 hl3 hl4 hf
          have h60 : ((i : Int) == 60) = false := beq_eq_false_iff_ne.2 (by omega)
          obtain ⟨po, co, hov, _, _⟩ := HSS2.out.form
          rw [hdl] at hov
          subst hov
          have hEA : E ≤ wr.heap.size := hE
          have HQ3 := Lib.hid (HQ2.out.wide hEA (Nat.le_refl _))
          have hle : E ≤ w2.heap.size := Nat.le_trans hE hlen2
          go_wp2_with (at_builtin; go_must (refine push_step (w := w2.alloc (.cells #[.int .i64 z, .bool sx, .slice p1 n1 c1, .slice p2 n2 c2, .bool sy, .slice q1 m1 d1, .slice q2 m2 d2] 37)) (lo := w.heap.size) (hi := E) (hi' := w2.heap.size) (ds := ds) ⟨z, sx, sy, .slice p1 n1 c1, .slice p2 n2 c2, .slice q1 m1 d1, .slice q2 m2 d2, l1, l2, l3, l4⟩ _ _ rfl rfl rfl HSS2.out HQ3.out hle (by rw [hszA]; omega) hszA.symm rfl (by rw [hdl]; omega) ?_); intro v3 w3 hst3 hb3 hsz3 hk3)
          have HS3 := Lib.hid hst3
          have HB3 := Lib.hid (HBL2.out.trans hb3)
          have HL3 := Lib.hid (HLI2.out.kept hk3 str_step)
          have hs3 : w2.heap.size ≤ w3.heap.size := by rw [hszA] at hsz3; omega
          clear hst3 hb3 hk3 HLI2 HBL2 HSS2 HQ2 HQ3
          go_roundw
          case rel => exact ⟨i + 1, l ++ [(k, p)], ds ++ [(StepD.mk z sx sy (.slice p1 n1 c1) (.slice p2 n2 c2) (.slice q1 m1 d1) (.slice q2 m2 d2) l1 l2 l3 l4)], w2.heap.size, by go_num, hk, by omega, by rw [List.length_append, hdl, List.length_singleton], HNX.out k p HF.out, HAD.out.snoc HD.out, HS3.out, hs3, HL3.out, HB3.out⟩
          case measure => simp only [intOf]; omega
        · have HNO : Hid (¬ ∃ l, moFits t l) := by
            show ¬ _
            by_cases h60 : i < 60
            · apply HBAD.out
              rcases HIS.out with ⟨k, p, hf, h1, _⟩ | ⟨hn, _⟩
              · exact absurd ⟨h1, h60⟩ hok
              · exact hn
            · exact LinesAre.long (by rw [HN.out]; omega)
          have hbx : Below w.heap.size w (w2.alloc (.cells #[.int .i64 z, .bool sx, .slice p1 n1 c1, .slice p2 n2 c2, .bool sy, .slice q1 m1 d1, .slice q2 m2 d2] 37)) := HBL2.out
          have HBX := Lib.hid hbx
          obtain ⟨po, co, hov, _, _⟩ := HSS2.out.form
          rw [hdl] at hov
          subst hov
          clear HSS2 HQ2 HLI2 HBL2 hbx HNX HBAD HLA HAD
          cases ok with
          | false =>
            clear hok
            go_wp2_with fail
            go_ret2
            exact ⟨HBX.out, .inr ⟨HNO.out, rfl⟩⟩
          | true =>
            have h60 : ((i : Int) == 60) = true := by
              rw [beq_iff_eq]
              have : ¬ i < 60 := fun h => hok ⟨rfl, h⟩
              omega
            clear hok
            go_wp2_with fail
            go_ret2
            exact ⟨HBX.out, .inr ⟨HNO.out, rfl⟩⟩
      · have hin : i = n := by omega
        have HD : Hid (moFits t l) := by
          show moFits t l
          have hla := HLA.out
          rw [hin, ← HN.out] at hla
          have hu := HU.out
          subst hu
          exact hla.done (by rw [HN.out]; omega)
        have hnl : ¬ ((i : Int) < n) := by omega
        have HS := Lib.hid (show Steps wr w.heap.size wr.heap.size u4 ds from ⟨HSS.out.1, HSS.out.2.wide hE⟩)
        clear HSS HLI
        go_wp2_with fail
        go_ret2
        exact ⟨HBL.out, .inl ⟨l, ds, _, HD.out, HAD.out, rfl, HS.out⟩⟩
  · have HNO : Hid (¬ ∃ l, moFits t l) := by
      show ¬ _
      rintro ⟨l, hg, h60, he⟩
      by_cases hl0 : l = []
      · subst hl0; exact ht he.symm
      · obtain ⟨u, hu⟩ := moText_end hl0
        exact hs ((suffix_iff t).2 ⟨u, he.symm.trans hu⟩)
    have hsf : Lib.hasSuffix t [10] = false := by simpa using hs
    have HSF : Hid (Calls Tryz.prog 49 #[(Value.string ⟨(t).toArray⟩), (Value.string ⟨([10]).toArray⟩)] w fun e w' => e = .returned (.bool false) ∧ w = w') := HSUF.out.mono fun e w' ⟨h1, h2⟩ => ⟨by rw [h1]; exact congrArg (fun b => Ending.returned (.bool b)) hsf, h2.symm⟩
    have HB := Lib.hid (Below.refl w.heap.size w)
    clear hsf hs HSUF ht
    go_enter Tryz.func20, Tryz.ntmps20
    go_wp2_with fail
    refine HSF.out.mono ?_
    rintro e w' ⟨rfl, rfl⟩
    go_wp2_with fail
    go_ret2
    exact ⟨HB.out, .inr ⟨HNO.out, rfl⟩⟩
end Go.Proofs.YtnpfmmdekjjnjaaGreatDoor

/- Contracts: the text of a motion: spec.FormatMotion. -/
namespace Go.Proofs.YtnpfmmdekjjnjaaGreatDoor
open Go Go.RowKit Pl

theorem AllD.at_ : ∀ {l : List StepT} {ds : List StepD} {i : Nat}, AllD l ds → (h : i < l.length) → ∃ d, ds[i]? = some d ∧ isD l[i] d
  | _ :: _, d :: _, 0, h, _ => ⟨d, rfl, h.1⟩
  | _ :: _, _ :: _, i + 1, h, hi => by
    obtain ⟨d, h1, h2⟩ := AllD.at_ h.2 (show i < _ by simpa using hi)
    exact ⟨d, by rw [List.getElem?_cons_succ]; exact h1, h2⟩
theorem Inner.at_ {w : World} : ∀ {ds : List StepD} {lo hi i : Nat} {d : StepD}, Inner w lo hi ds → ds[i]? = some d → ∃ lo' hi', lo ≤ lo' ∧ hi' ≤ hi ∧ Quad w lo' hi' d.a d.b d.c d.d d.l1 d.l2 d.l3 d.l4
  | x :: r, lo, hi, 0, d, ⟨m, h1, h2, h3, h4⟩, h => by
    simp only [List.getElem?_cons_zero, Option.some.injEq] at h
    subst h
    exact ⟨lo, m, Nat.le_refl _, h2, h3⟩
  | x :: r, lo, hi, i + 1, d, ⟨m, h1, h2, h3, h4⟩, h => by
    rw [List.getElem?_cons_succ] at h
    obtain ⟨lo', hi', e1, e2, e3⟩ := Inner.at_ h4 h
    exact ⟨lo', hi', Nat.le_trans h1 e1, e2, e3⟩
/-- A step's point. -/
theorem Quad.pt {w : World} {lo hi : Nat} {a b c d : Value} {p : Pt} (h : Quad w lo hi a b c d (limbs p.x.num) (limbs p.x.den) (limbs p.y.num) (limbs p.y.den)) (hx : p.x.good) (hy : p.y.good) :
    PtV w 0 w.heap.size (.agg #[.bool p.x.neg, a, b, .bool p.y.neg, c, d]) p := by
  obtain ⟨h1, h2, h3, h4⟩ := h.ints
  exact ⟨a, b, c, d, rfl, ⟨a, b, rfl, h1, h2, hx.2⟩, ⟨c, d, rfl, h3, h4, hy.2⟩⟩
theorem stepText_short {x : StepT} (h : x.2.small) : (stepText x).length ≤ 2700 := by
  unfold stepText
  have h1 := (words_short (k := x.1)).2
  have h2 := fmtPt_short h
  rw [List.length_append, List.length_cons]
  omega
theorem stepGood.small {x : StepT} (h : stepGood x) : x.2.small := ⟨h.2.1.1.small, h.2.2.1.small⟩
theorem moText_short {l : List StepT} (h : ∀ x ∈ l, stepGood x) : (moText l).length ≤ l.length * 2701 := by
  induction l with
  | nil => simp [moText]
  | cons x l ih =>
    have h1 := stepText_short (h x List.mem_cons_self).small
    have h2 := ih fun y hy => h y (List.mem_cons_of_mem _ hy)
    rw [moText_cons, List.length_append, List.length_cons, List.length_cons]
    omega
theorem fmtWord_step {x : StepT} (h : stepGood x) : fmtWord stWords x.1 x.2 = stepText x := by
  unfold fmtWord stepText
  rw [if_pos ⟨h.1, h.2.1.1, h.2.2.1⟩]
def moTextO (l : List StepT) : List UInt8 := if l.length ≤ 60 then moText l else []

set_option maxHeartbeats 2000000 in
set_option maxRecDepth 100000 in
theorem sFormatMotion_any (l : List StepT) (ds : List StepD) (v : Value) (lo hi : Nat) (w : World) (h : Steps w lo hi v ds) (hd : AllD l ds) (hg : ∀ x ∈ l, stepGood x) :
    Calls Tryz.prog 58 #[v] w fun e w' => e = .returned (Value.string ⟨(moTextO l).toArray⟩) ∧ Below w.heap.size w w' := by
  have hlen := hd.len
  obtain ⟨po, co, rfl, hc1, hc2⟩ := h.form
  unfold maxLen at hc2
  generalize hn : ds.length = n at *
  have HB := Lib.hid (Below.refl w.heap.size w)
  by_cases h60 : n ≤ 60
  · have HO : Hid (moTextO l = moText l) := by show _ = _; unfold moTextO; rw [if_pos (by omega)]
    have HL := Lib.hid hlen
    have HG := Lib.hid hg
    have HD := Lib.hid hd
    have HH := Lib.hid h
    have HN := Lib.hid hn
    clear hlen hg hd h hn
    go_enter Tryz.func58, Tryz.ntmps58
    go_wp2_with fail
    go_loopw [3, 12] (fun tv iv wr => ∃ i : Nat, iv = .int .i64 i ∧ i ≤ n ∧ tv = (Value.string ⟨(moText (l.take i)).toArray⟩) ∧ Hid (Below w.heap.size w wr)) (fun _ iv _ => n - (intOf iv).toNat)
    case atStart => exact ⟨0, rfl, Nat.zero_le _, rfl, HB.out⟩
    case round =>
      obtain ⟨i, rfl, hi, rfl, HBL⟩ := hrel
      rcases Nat.lt_or_ge i n with hk | hk
      · have hil : i < l.length := by rw [HL.out]; exact hk
        obtain ⟨d, hdi, hisd⟩ := HD.out.at_ hil
        have hsr := HH.out.below HBL.out
        obtain ⟨g, c, hv, hg1, hg2, hcell, _⟩ := hsr.cell hdi
        obtain ⟨lo', hi', _, _, hq⟩ := hsr.2.at_ hdi
        have hgood := HG.out l[i] (List.getElem_mem hil)
        have hts : moText (l.take (i + 1)) = moText (l.take i) ++ (stepText l[i] ++ [10]) := by
          rw [List.take_add_one, List.getElem?_eq_getElem hil, Option.toList_some, moText_snoc]
        have hsm := stepText_short hgood.small
        have hmo : (moText (l.take i)).length ≤ 170000 := by
          have := moText_short (l := l.take i) fun x hx => HG.out x (List.mem_of_mem_take hx)
          rw [List.length_take] at this
          omega
        have hne := stepText_ne l[i]
        have hfw := fmtWord_step hgood
        generalize l[i] = x at *
        obtain ⟨k, p⟩ := x
        obtain ⟨z, sx, sy, a, b, c', d', l1, l2, l3, l4⟩ := d
        obtain ⟨e1, e2, e3, e4, e5, e6, e7⟩ := hisd
        simp only at e1 e2 e3 e4 e5 e6 e7 hq hcell
        subst e1 e2 e3 e4 e5 e6 e7
        obtain ⟨p1, n1, c1, p2, n2, c2, q1, m1, d1, q2, m2, d2, rfl, rfl, rfl, rfl⟩ := hq.form
        rw [HN.out] at hv
        injection hv with hv _ hv2
        subst hv hv2
        have e0 := hcell 0 (by decide)
        have e1 := hcell 1 (by decide)
        have e2 := hcell 2 (by decide)
        have e3 := hcell 3 (by decide)
        have e4 := hcell 4 (by decide)
        have e5 := hcell 5 (by decide)
        have e6 := hcell 6 (by decide)
        simp only [StepD.cells, List.getElem?_cons_zero, List.getElem?_cons_succ, Nat.add_zero] at e0 e1 e2 e3 e4 e5 e6
        rw [show ((k : Int) + -1) = (k : Int) - 1 by omega] at e0
        have hil : (i : Int) < n := by omega
        have hbA : Below wr.heap.size wr (wr.alloc (.cells #[.int .i64 ((k : Int) - 1), .bool p.x.neg, .slice p1 n1 c1, .slice p2 n2 c2, .bool p.y.neg, .slice q1 m1 d1, .slice q2 m2 d2] 37)) := (Below.refl _ _).alloc (Nat.le_refl _) _
        have HC : Hid (Calls Tryz.prog 39 #[.agg #[.int .i64 ((k : Int) - 1), .bool p.x.neg, .slice p1 n1 c1, .slice p2 n2 c2, .bool p.y.neg, .slice q1 m1 d1, .slice q2 m2 d2]] (wr.alloc (.cells #[.int .i64 ((k : Int) - 1), .bool p.x.neg, .slice p1 n1 c1, .slice p2 n2 c2, .bool p.y.neg, .slice q1 m1 d1, .slice q2 m2 d2] 37)) fun e w' => e = .returned (Value.string ⟨(stepText (k, p)).toArray⟩) ∧ Below (wr.alloc (.cells #[.int .i64 ((k : Int) - 1), .bool p.x.neg, .slice p1 n1 c1, .slice p2 n2 c2, .bool p.y.neg, .slice q1 m1 d1, .slice q2 m2 d2] 37)).heap.size (wr.alloc (.cells #[.int .i64 ((k : Int) - 1), .bool p.x.neg, .slice p1 n1 c1, .slice p2 n2 c2, .bool p.y.neg, .slice q1 m1 d1, .slice q2 m2 d2] 37)) w') := by
          have := sFormatStep_any k hgood.1 p (.slice p1 n1 c1) (.slice p2 n2 c2) (.slice q1 m1 d1) (.slice q2 m2 d2) (wr.alloc (.cells #[.int .i64 ((k : Int) - 1), .bool p.x.neg, .slice p1 n1 c1, .slice p2 n2 c2, .bool p.y.neg, .slice q1 m1 d1, .slice q2 m2 d2] 37)) ((hq.below hbA).pt hgood.2.1 hgood.2.2) hgood.small
          rw [hfw] at this
          exact this
        have HBL2 := Lib.hid (HBL.out.trans (hbA.mono HBL.out.size))
        have HTS := Lib.hid hts
        clear hsr hcell hq hgood hbA hts hfw hdi
        generalize hst : stepText (k, p) = st at *
        have HST := Lib.hid hst
        generalize hmt : moText (l.take i) = mt at *
        have HMT := Lib.hid hmt
        have hsb : (st == ([] : List UInt8)) = false := beq_eq_false_iff_ne.2 hne
        clear hst hmt hne
        generalize p.x.neg = sx at *
        generalize p.y.neg = sy at *
        go_wp2_with fail
        refine HC.out.mono ?_
        rintro e w2 ⟨rfl, hb2⟩
        have HB2 := Lib.hid (HBL2.out.trans (hb2.mono HBL2.out.size))
        clear hb2 HC
        go_wp2_with fail
        go_roundw
        case rel => exact ⟨i + 1, by go_num, hk, (str_join3 mt st [10]).trans (by rw [← HTS.out]), HB2.out⟩
        case measure => simp only [intOf]; omega
      · have hin : i = n := by omega
        have HE : Hid (moText (l.take i) = moText l) := by show _ = _; rw [hin, ← HL.out, List.take_length]
        have hnl : ¬ ((i : Int) < n) := by omega
        generalize moText (l.take i) = mt at *
        go_wp2_with fail
        go_ret
        exact ⟨by rw [HO.out, ← HE.out]; rfl, HBL.out⟩
  · have HO : Hid (moTextO l = []) := by show _ = _; unfold moTextO; rw [if_neg (by omega)]
    have hn60 : (60 : Int) < n := by omega
    clear h hd hg hlen
    go_enter Tryz.func58, Tryz.ntmps58
    go_wp2_with fail
    go_ret
    exact ⟨by rw [HO.out]; rfl, HB.out⟩
end Go.Proofs.YtnpfmmdekjjnjaaGreatDoor

/- Contracts: reading a motion: spec.ParseMotion. -/
namespace Go.Proofs.YtnpfmmdekjjnjaaGreatDoor
open Go Go.RowKit Pl

theorem moTextO_fits {t : List UInt8} {l : List StepT} (h : LinesAre t (linesOf t).length l) (he : moTextO l = t) : moFits t l := by
  have hl := h.len (Nat.le_refl _)
  by_cases h60 : l.length ≤ 60
  · exact ⟨h.2, h60, by rw [← he, moTextO, if_pos h60, ]⟩
  · rw [moTextO, if_neg h60] at he
    subst he
    rw [linesOf_nil] at hl
    simp at hl
    subst hl
    exact absurd (by simp) h60
theorem moTextO_no {t : List UInt8} {l : List StepT} (h : LinesAre t (linesOf t).length l) (he : moTextO l ≠ t) : ¬ ∃ l, moFits t l := by
  rintro ⟨l', hg, h60, ht⟩
  have h1 := linesOf_moText l'
  rw [ht] at h1
  have h2 := h.1
  rw [List.take_length, h1] at h2
  have := map_stepText_inj hg h.2 h2
  subst this
  apply he
  rw [moTextO, if_pos h60, ht]

set_option maxHeartbeats 1000000 in
set_option maxRecDepth 100000 in
theorem sParseMotion_any (t : List UInt8) (w : World) (hl : t.length ≤ 1048576) :
    Calls Tryz.prog 26 #[(Value.string ⟨(t).toArray⟩)] w (MoPost t w) := by
  have hb1 : Below w.heap.size w (w.alloc (.cells #[] 37)) := (Below.refl _ _).alloc (Nat.le_refl _) _
  have HL := Lib.hid (sSplitLines_any t (w.alloc (.cells #[] 37)) (by omega))
  have HST := Lib.hid (Steps.made w w.heap.size (Nat.le_refl _))
  have HB1 := Lib.hid hb1
  have hlt1 : w.heap.size < (w.alloc (.cells #[] 37)).heap.size := by simp
  clear hb1
  go_enter Tryz.func26, Tryz.ntmps26
  go_wp2_with fail
  refine HL.out.mono ?_
  rintro e w1 ⟨v, rfl, hlin, hb2⟩
  obtain ⟨g, c, rfl, hc1, hc2, hbg, hrw, hcell⟩ := hlin
  have HLIN := Lib.hid (show LinesIn w1 (w.alloc (.cells #[] 37)).heap.size (.slice (some ⟨g, 0, none⟩) (linesOf t).length c) (linesOf t) from ⟨g, c, rfl, hc1, hc2, hbg, hrw, hcell⟩)
  have HST1 := Lib.hid (HST.out.below hb2)
  have HBW := Lib.hid (HB1.out.trans (hb2.mono HB1.out.size))
  have hsz1 : w.heap.size ≤ w1.heap.size := HBW.out.size
  have hcount := lines_count t
  clear hcell hrw hbg HL HST HB1 hb2
  generalize hn : (linesOf t).length = n at *
  have HN := Lib.hid hn
  clear hn
  go_wp2_with fail
  go_loopw [4, 13] (fun ov iv wr => ∃ (i : Nat) (l : List StepT) (ds : List StepD) (E : Nat), iv = .int .i64 i ∧ i ≤ n ∧ ds.length = i ∧ Hid (LinesAre t i l) ∧ Hid (AllD l ds) ∧ Hid (Steps wr w.heap.size E ov ds) ∧ E ≤ wr.heap.size ∧
    Hid (LinesIn wr (w.alloc (.cells #[] 37)).heap.size (.slice (some ⟨g, 0, none⟩) n c) (linesOf t)) ∧ Hid (Below w.heap.size w wr)) (fun _ iv _ => n - (intOf iv).toNat)
  case atStart => exact ⟨0, [], [], w.heap.size, rfl, Nat.zero_le _, rfl, LinesAre.start t, trivial, HST1.out, hsz1, HLIN.out, HBW.out⟩
  case round =>
      obtain ⟨i, l, ds, E, rfl, hi, hdl, HLA, HAD, HSS, hE, HLI, HBL⟩ := hrel
      clear HLIN HST1 HBW
      rcases Nat.lt_or_ge i n with hk | hk
      · have HK : Hid (i < (linesOf t).length) := by show i < _; rw [HN.out]; exact hk
        have hcl : wr.cell? ⟨g, i, none⟩ = some (Value.string ⟨((linesOf t).getD i []).toArray⟩) := by
          obtain ⟨g', c', e, _, _, _, _, h6⟩ := HLI.out
          injection e with e1 _ _
          injection e1 with e1
          injection e1 with e1 _ _
          subst e1
          exact h6 i HK.out
        have hsh : ((linesOf t).getD i []).length ≤ 1048576 := by
          have hm : (linesOf t).getD i [] ∈ linesOf t := by
            rw [List.getD_eq_getElem?_getD, List.getElem?_eq_getElem HK.out]
            exact List.getElem_mem HK.out
          have := line_short t hm
          omega
        have HNX := Lib.hid (fun (k : Nat) (p : Pt) (hf : wordFits stWords ((linesOf t).getD i []) k p) => HLA.out.next HK.out hf)
        have HBAD := Lib.hid (fun (hf : ¬ ∃ k p, wordFits stWords ((linesOf t).getD i []) k p) => LinesAre.bad HK.out hf)
        generalize (linesOf t).getD i [] = line at hcl hsh HNX HBAD
        have hil : (i : Int) < n := by omega
        have HP := Lib.hid (sParseStep_any line wr (by omega))
        go_wp2_with fail
        refine HP.out.mono ?_
        rintro e w2 hp
        obtain ⟨ok, z, sx, sy, p1, n1, c1, p2, n2, c2, q1, m1, d1, q2, m2, d2, l1, l2, l3, l4, his, rfl, hq, hb⟩ := hp.is
        clear hp HP hcl
        have hlen2 := hb.size
        have hbA : Below w2.heap.size w2 (w2.alloc (.cells #[.int .i64 z, .bool sx, .slice p1 n1 c1, .slice p2 n2 c2, .bool sy, .slice q1 m1 d1, .slice q2 m2 d2] 37)) := (Below.refl _ _).alloc (Nat.le_refl _) _
        have HSS2 := Lib.hid ((HSS.out.below hb).below hbA)
        have HQ2 := Lib.hid (hq.below hbA)
        have HLI2 := Lib.hid ((HLI.out.below hb).below hbA)
        have HBL2 := Lib.hid ((HBL.out.trans (hb.mono HBL.out.size)).trans (hbA.mono (HBL.out.trans (hb.mono HBL.out.size)).size))
        have hszA : (w2.alloc (.cells #[.int .i64 z, .bool sx, .slice p1 n1 c1, .slice p2 n2 c2, .bool sy, .slice q1 m1 d1, .slice q2 m2 d2] 37)).heap.size = w2.heap.size + 1 := by simp
        have HIS := Lib.hid his
        clear HSS HLI HBL hb hbA his hq
        cases ok with
        | true =>
          obtain ⟨k, p, hf, hz, hsx, hsy, hl1, hl2, hl3, hl4⟩ : ∃ k p, wordFits stWords line k p ∧ z = (k : Int) + -1 ∧ sx = p.x.neg ∧ sy = p.y.neg ∧ l1 = limbs p.x.num ∧ l2 = limbs p.x.den ∧ l3 = limbs p.y.num ∧ l4 = limbs p.y.den := by
            rcases HIS.out with ⟨k, p, hf, _, h1, h2, h3, h4, h5, h6, h7⟩ | ⟨_, h, _⟩
            · exact ⟨k, p, hf, h1, h2, h3, h4, h5, h6, h7⟩
            · cases h
          have HD : Hid (isD (k, p) ⟨z, sx, sy, .slice p1 n1 c1, .slice p2 n2 c2, .slice q1 m1 d1, .slice q2 m2 d2, l1, l2, l3, l4⟩) := ⟨hz, hsx, hsy, hl1, hl2, hl3, hl4⟩
          have HF := Lib.hid hf
          clear hz hsx hsy hl1 hl2 hl3 hl4 hf
          obtain ⟨po, co, hov, _, _⟩ := HSS2.out.form
          rw [hdl] at hov
          subst hov
          have hEA : E ≤ wr.heap.size := hE
          have HQ3 := Lib.hid (HQ2.out.wide hEA (Nat.le_refl _))
          have hle : E ≤ w2.heap.size := Nat.le_trans hE hlen2
          go_wp2_with (at_builtin; go_must (refine push_step (w := w2.alloc (.cells #[.int .i64 z, .bool sx, .slice p1 n1 c1, .slice p2 n2 c2, .bool sy, .slice q1 m1 d1, .slice q2 m2 d2] 37)) (lo := w.heap.size) (hi := E) (hi' := w2.heap.size) (ds := ds) ⟨z, sx, sy, .slice p1 n1 c1, .slice p2 n2 c2, .slice q1 m1 d1, .slice q2 m2 d2, l1, l2, l3, l4⟩ _ _ rfl rfl rfl HSS2.out HQ3.out hle (by rw [hszA]; omega) hszA.symm rfl (by rw [hdl]; omega) ?_); intro v3 w3 hst3 hb3 hsz3 hk3)
          have HS3 := Lib.hid hst3
          have HB3 := Lib.hid (HBL2.out.trans hb3)
          have HL3 := Lib.hid (HLI2.out.kept hk3 str_step)
          have hs3 : w2.heap.size ≤ w3.heap.size := by rw [hszA] at hsz3; omega
          clear hst3 hb3 hk3 HLI2 HBL2 HSS2 HQ2 HQ3
          go_roundw
          case rel => exact ⟨i + 1, l ++ [(k, p)], ds ++ [(StepD.mk z sx sy (.slice p1 n1 c1) (.slice p2 n2 c2) (.slice q1 m1 d1) (.slice q2 m2 d2) l1 l2 l3 l4)], w2.heap.size, by go_num, hk, by rw [List.length_append, hdl, List.length_singleton], HNX.out k p HF.out, HAD.out.snoc HD.out, HS3.out, hs3, HL3.out, HB3.out⟩
          case measure => simp only [intOf]; omega
        | false =>
          have HNO : Hid (¬ ∃ l, moFits t l) := by
            show ¬ _
            apply HBAD.out
            rcases HIS.out with ⟨k, p, hf, h1, _⟩ | ⟨hn, _⟩
            · cases h1
            · exact hn
          obtain ⟨po, co, hov, _, _⟩ := HSS2.out.form
          rw [hdl] at hov
          subst hov
          clear HSS2 HQ2 HLI2 HNX HBAD HLA HAD
          go_wp2_with fail
          go_ret2
          exact ⟨HBL2.out, .inr ⟨HNO.out, rfl⟩⟩
      · have hin : i = n := by omega
        have HD : Hid (LinesAre t (linesOf t).length l) := by
          show LinesAre _ _ _
          rw [HN.out, ← hin]
          exact HLA.out
        have hnl : ¬ ((i : Int) < n) := by omega
        have HS := Lib.hid (show Steps wr w.heap.size wr.heap.size u4 ds from ⟨HSS.out.1, HSS.out.2.wide hE⟩)
        obtain ⟨po, co, hov, _, _⟩ := HSS.out.form
        rw [hdl] at hov
        subst hov
        have HF := Lib.hid (sFormatMotion_any l ds _ _ _ wr HS.out HAD.out HLA.out.2)
        clear HSS HLI HLA hin hdl
        by_cases hmt : moTextO l = t
        · have HM := Lib.hid (moTextO_fits HD.out hmt)
          rw [hmt] at HF
          clear hmt HD
          go_wp2_with fail
          refine HF.out.mono ?_
          rintro e w3 ⟨rfl, hb3⟩
          have HS3 := Lib.hid (HS.out.below hb3)
          have HB3 := Lib.hid (HBL.out.trans (hb3.mono HBL.out.size))
          have hs3 := hb3.size
          clear HF HS HBL hb3
          go_wp2_with fail
          go_ret2
          exact ⟨HB3.out, .inl ⟨l, ds, _, HM.out, HAD.out, rfl, HS3.out.1, HS3.out.2.wide hs3⟩⟩
        · have HNO := Lib.hid (moTextO_no HD.out hmt)
          generalize moTextO l = m at *
          have hmb : (m == t) = false := beq_eq_false_iff_ne.2 hmt
          clear hmt HD
          go_wp2_with fail
          refine HF.out.mono ?_
          rintro e w3 ⟨rfl, hb3⟩
          have HB3 := Lib.hid (HBL.out.trans (hb3.mono HBL.out.size))
          clear HF HS HBL hb3
          go_wp2_with fail
          go_ret2
          exact ⟨HB3.out, .inr ⟨HNO.out, rfl⟩⟩
end Go.Proofs.YtnpfmmdekjjnjaaGreatDoor
