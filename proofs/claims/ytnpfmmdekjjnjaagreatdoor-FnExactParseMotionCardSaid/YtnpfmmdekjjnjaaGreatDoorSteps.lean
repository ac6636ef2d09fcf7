/- Which texts are motions; lists of steps in memory. -/
import Derived.Test.YtnpfmmdekjjnjaaGreatDoorLawParse
import Derived.Test.YtnpfmmdekjjnjaaGreatDoorShelfB
namespace Go.Proofs.YtnpfmmdekjjnjaaGreatDoor
open Go Go.RowKit Pl

abbrev StepT := Nat × Pt
def stepText (x : StepT) : List UInt8 := stWords.getD x.1 [] ++ 32 :: fmtPt x.2
def stepGood (x : StepT) : Prop := x.1 < 3 ∧ x.2.x.good ∧ x.2.y.good
theorem wordFits_step {s : List UInt8} {k : Nat} {p : Pt} : wordFits stWords s k p ↔ stepGood (k, p) ∧ stepText (k, p) = s := by
  unfold wordFits stepGood stepText
  constructor
  · rintro ⟨h1, t, rfl, h2⟩
    exact ⟨⟨h1, h2.1.1, h2.1.2⟩, by rw [h2.2]⟩
  · rintro ⟨⟨h1, h2, h3⟩, rfl⟩
    exact ⟨h1, _, rfl, ⟨h2, h3⟩, rfl⟩
theorem stepText_inj {x y : StepT} (hx : stepGood x) (hy : stepGood y) (h : stepText x = stepText y) : x = y := by
  have h1 := wordFits_step.2 ⟨hx, rfl⟩
  have h2 := wordFits_step.2 ⟨hy, h.symm⟩
  obtain ⟨e1, e2⟩ := wordFits_inj stWords_no stWords_one h1 h2
  exact Prod.ext e1 e2
theorem stepText_no10 (x : StepT) : (10 : UInt8) ∉ stepText x := by
  unfold stepText
  rw [List.mem_append, List.mem_cons]
  rintro (h | h | h)
  · rcases Nat.lt_or_ge x.1 3 with hk | hk
    · have : ∀ k, k < 3 → (10 : UInt8) ∉ stWords.getD k [] := by decide
      exact this x.1 hk h
    · rw [show stWords.getD x.1 [] = [] by simp [List.getD, List.getElem?_eq_none (show stWords.length ≤ x.1 from hk)]] at h
      cases h
  · exact absurd h (by decide)
  · exact fmtPt_no (by decide) (by decide) (by decide) (by decide) h
theorem stepText_ne (x : StepT) : stepText x ≠ [] := by
  unfold stepText
  simp
/-- A motion's text. -/
def moText (l : List StepT) : List UInt8 := (l.map fun x => stepText x ++ [10]).flatten
theorem moText_nil : moText [] = [] := rfl
theorem moText_cons (x : StepT) (l : List StepT) : moText (x :: l) = stepText x ++ 10 :: moText l := by simp [moText]
theorem moText_snoc (l : List StepT) (x : StepT) : moText (l ++ [x]) = moText l ++ (stepText x ++ [10]) := by simp [moText]
theorem split_moText (l : List StepT) : split1 10 (moText l) = l.map stepText ++ [[]] := by
  induction l with
  | nil => rfl
  | cons x l ih => rw [moText_cons, split1_hit (stepText_no10 x), ih]; rfl
/-- The lines of a text, as SplitLines has them. -/
def dropLastNil (l : List (List UInt8)) : List (List UInt8) := if l.getLast? = some [] then l.dropLast else l
def linesOf (t : List UInt8) : List (List UInt8) := dropLastNil (split1 10 t)
theorem linesOf_moText (l : List StepT) : linesOf (moText l) = l.map stepText := by
  unfold linesOf dropLastNil
  rw [split_moText]
  simp
theorem split1_join (c : UInt8) (s : List UInt8) : s ++ [c] = (((split1 c s).map fun x => x ++ [c])).flatten := by
  rcases cut_cases c s with ⟨h, _⟩ | ⟨a, b, h, hs, _⟩
  · rw [split1_none h]; simp
  · subst hs
    rw [split1_hit h, List.map_cons, List.flatten_cons, ← split1_join c b]
    simp
termination_by s.length
decreasing_by all_goals (simp_all <;> omega)
theorem split1_snoc (c : UInt8) (s : List UInt8) : split1 c (s ++ [c]) = split1 c s ++ [[]] := by
  rcases cut_cases c s with ⟨h, _⟩ | ⟨a, b, h, hs, _⟩
  · rw [split1_hit h, split1_none h]; rfl
  · subst hs
    rw [List.append_assoc, List.cons_append, split1_hit h, split1_hit h, split1_snoc c b]; rfl
termination_by s.length
decreasing_by all_goals (simp_all <;> omega)
theorem lines_nl {u : List UInt8} {l : List StepT} (h : linesOf (u ++ [10]) = l.map stepText) : u ++ [10] = moText l := by
  have hj := split1_join 10 u
  unfold linesOf dropLastNil at h
  rw [split1_snoc, if_pos (by simp), List.dropLast_concat] at h
  rw [h] at hj
  rw [hj]
  simp [moText, Function.comp_def]
theorem lines_moText {t : List UInt8} {l : List StepT} (h : linesOf t = l.map stepText) : t = moText l ∨ moText l = t ++ [10] := by
  have hj := split1_join 10 t
  unfold linesOf dropLastNil at h
  by_cases hl : (split1 10 t).getLast? = some []
  · left
    rw [if_pos hl] at h
    have hd : split1 10 t = (split1 10 t).dropLast ++ [[]] := by
      conv => lhs; rw [← List.dropLast_concat_getLast (split1_ne 10 t)]
      rw [List.getLast?_eq_some_getLast (split1_ne 10 t)] at hl
      injection hl with hl
      rw [hl]
    rw [hd, h] at hj
    have : t ++ [10] = moText l ++ [10] := by rw [hj]; simp [moText, Function.comp_def]
    exact List.append_cancel_right this
  · right
    rw [if_neg hl] at h
    rw [h] at hj
    rw [hj]; simp [moText, Function.comp_def]
theorem moText_end {l : List StepT} (h : l ≠ []) : ∃ u, moText l = u ++ [10] := by
  refine ⟨moText l.dropLast ++ stepText (l.getLast h), ?_⟩
  conv => lhs; rw [← List.dropLast_concat_getLast h, moText_snoc]
  simp
theorem linesOf_nil : linesOf [] = [] := rfl
theorem dropLast_last {l : List (List UInt8)} (h : l ≠ []) : dropLastNil l = if l.getD (l.length - 1) [] = [] then l.take (l.length - 1) else l := by
  unfold dropLastNil
  have e : l.getLast? = some (l.getD (l.length - 1) []) := by
    rw [List.getLast?_eq_getElem?, List.getD_eq_getElem?_getD]
    have : l.length - 1 < l.length := by have := List.length_pos_iff.2 h; omega
    rw [List.getElem?_eq_getElem this]; rfl
  rw [e]
  by_cases hx : l.getD (l.length - 1) [] = []
  · rw [if_pos hx, if_pos (by rw [hx]), List.dropLast_eq_take]
  · rw [if_neg hx, if_neg (fun h => hx (Option.some.inj h))]
def moFits (t : List UInt8) (l : List StepT) : Prop := (∀ x ∈ l, stepGood x) ∧ l.length ≤ 60 ∧ moText l = t
theorem map_stepText_inj : ∀ {l l' : List StepT}, (∀ x ∈ l, stepGood x) → (∀ x ∈ l', stepGood x) → l.map stepText = l'.map stepText → l = l'
  | [], [], _, _, _ => rfl
  | [], _ :: _, _, _, h => by cases h
  | _ :: _, [], _, _, h => by cases h
  | x :: l, y :: l', h1, h2, h => by
    injection h with e1 e2
    rw [stepText_inj (h1 x List.mem_cons_self) (h2 y List.mem_cons_self) e1, map_stepText_inj (fun z hz => h1 z (List.mem_cons_of_mem _ hz)) (fun z hz => h2 z (List.mem_cons_of_mem _ hz)) e2]
theorem moFits_inj {t : List UInt8} {l l' : List StepT} (h : moFits t l) (h' : moFits t l') : l = l' := by
  have h1 := linesOf_moText l
  have h2 := linesOf_moText l'
  rw [h.2.2] at h1
  rw [h'.2.2] at h2
  exact map_stepText_inj h.1 h'.1 (h1.symm.trans h2)
end Go.Proofs.YtnpfmmdekjjnjaaGreatDoor

/- Contracts: the lines of a text: impl.SplitLines, spec.SplitLines. -/
namespace Go.Proofs.YtnpfmmdekjjnjaaGreatDoor
open Go Go.RowKit Pl

theorem libsplit_eq (c : UInt8) (l : List UInt8) : Lib.split l [c] = split1 c l ∧ Lib.count l [c] + 1 = (split1 c l).length := by
  rcases cut_cases c l with ⟨h, _⟩ | ⟨a, b, h, hs, _⟩
  · have hi : Lib.index l [c] = -1 := index_none h
    have hc : Lib.count l [c] = 0 := Lib.count_miss hi
    unfold Lib.split
    rw [hc, split1_none h]
    exact ⟨rfl, rfl⟩
  · subst hs
    have ih := libsplit_eq c b
    have hi : Lib.index (a ++ c :: b) [c] = a.length := index_hit h b
    have hd : (a ++ c :: b).drop (a.length + [c].length) = b := by simp
    have hc : Lib.count (a ++ c :: b) [c] = 1 + Lib.count b [c] := by
      have := Lib.count_hit (by simp) hi
      rwa [hd] at this
    rw [split1_hit h]
    constructor
    · unfold Lib.split
      rw [hc, Nat.add_comm 1, Lib.splitK, if_neg (by rw [hi, beq_iff_eq]; omega), hi]
      have : ((a.length : Int)).toNat = a.length := by omega
      rw [this, hd, Nat.add_zero, List.take_left]
      rw [show Lib.splitK [c] 0 (Lib.count b [c]) b = Lib.split b [c] from rfl, ih.1]
    · rw [hc, List.length_cons, ← ih.2]; omega
termination_by l.length
decreasing_by all_goals (simp_all <;> omega)
theorem splitB_eq (c : UInt8) (s : List UInt8) : ((Lib.splitB ⟨#[c]⟩ 0 (Lib.countB ⟨s.toArray⟩ ⟨#[c]⟩) ⟨s.toArray⟩).map Value.string) = (split1 c s).map (fun s => (Value.string ⟨(s).toArray⟩)) ∧ Lib.countB ⟨s.toArray⟩ ⟨#[c]⟩ + 1 = (split1 c s).length := by
  have h := libsplit_eq c s
  have hc : Lib.countB ⟨s.toArray⟩ ⟨#[c]⟩ = Lib.count s [c] := rfl
  constructor
  · rw [← h.1, Lib.split]
    have := Lib.splitB_data ⟨#[c]⟩ 0 (Lib.countB ⟨s.toArray⟩ ⟨#[c]⟩) ⟨s.toArray⟩
    rw [show (⟨#[c]⟩ : ByteArray).data.toList = [c] from rfl, show (⟨s.toArray⟩ : ByteArray).data.toList = s from rfl] at this
    rw [← hc, ← this, List.map_map]
    rfl
  · rw [hc]; exact h.2

/-- A slice of the lines of a text. -/
def LinesIn (w : World) (base : Nat) (v : Value) (l : List (List UInt8)) : Prop :=
  ∃ g c, v = .slice (some ⟨g, 0, none⟩) l.length c ∧ l.length ≤ c ∧ c ≤ maxLen ∧ base ≤ g ∧ (∃ cur fr, w.heap[g]? = some (.cells cur 9 fr)) ∧ ∀ i, i < l.length → w.cell? ⟨g, i, none⟩ = some (Value.string ⟨(l.getD i []).toArray⟩)
/-- The blocks of other element types are as they were. -/
def KeptNot (T : TypeId) (w w' : World) : Prop := ∀ (k : Nat) (cs : Array Value) (t : TypeId) (f : Nat × Nat), w.heap[k]? = some (Obj.cells cs t f) → t ≠ T → w'.heap[k]? = w.heap[k]?
theorem KeptNot.of_below {T : TypeId} {w w' : World} (h : Below w.heap.size w w') : KeptNot T w w' := fun k _ _ _ hk _ => h.block k (Array.getElem?_eq_some_iff.1 hk).1
theorem KeptNot.trans {T : TypeId} {w w' w'' : World} (h : KeptNot T w w') (h' : KeptNot T w' w'') : KeptNot T w w'' := fun k cs t f hk ht =>
  (h' k cs t f ((h k cs t f hk ht).trans hk) ht).trans (h k cs t f hk ht)
theorem LinesIn.kept {w w' : World} {base : Nat} {v : Value} {l : List (List UInt8)} (h : LinesIn w base v l) {T : TypeId} (hk : KeptNot T w w') (hT : (9 : TypeId) ≠ T) : LinesIn w' base v l := by
  obtain ⟨g, c, h1, h2, h3, h4, ⟨cur, fr, h5⟩, h6⟩ := h
  have e := hk g cur _ fr h5 hT
  refine ⟨g, c, h1, h2, h3, h4, ⟨cur, fr, e.trans h5⟩, fun i hi => ?_⟩
  rw [← h6 i hi]
  simp only [World.cell?, e]
theorem LinesIn.lt {w : World} {base g n c : Nat} {l : List (List UInt8)} (h : LinesIn w base (.slice (some ⟨g, 0, none⟩) n c) l) : base ≤ g ∧ g < w.heap.size ∧ n = l.length := by
  obtain ⟨g', c', e, h2, h3, h4, ⟨cur, fr, h5⟩, h6⟩ := h
  injection e with e1 e2 e3
  injection e1 with e1
  injection e1 with e1 _ _
  subst e1
  exact ⟨h4, (Array.getElem?_eq_some_iff.1 h5).1, e2⟩
theorem LinesIn.below {w w' : World} {base : Nat} {v : Value} {l : List (List UInt8)} (h : LinesIn w base v l) (hb : Below w.heap.size w w') : LinesIn w' base v l := by
  obtain ⟨g, c, h1, h2, h3, h4, h5, h6⟩ := h
  obtain ⟨cur, fr, h5⟩ := h5
  have hlt := (Array.getElem?_eq_some_iff.1 h5).1
  exact ⟨g, c, h1, h2, h3, h4, ⟨cur, fr, (hb.block g hlt).trans h5⟩, fun i hi => (hb.cell hlt).trans (h6 i hi)⟩
theorem LinesIn.take {w : World} {base g n c : Nat} {l : List (List UInt8)} (h : LinesIn w base (.slice (some ⟨g, 0, none⟩) n c) l) {k : Nat} (hk : k ≤ l.length) : LinesIn w base (.slice (some ⟨g, 0, none⟩) k c) (l.take k) := by
  obtain ⟨g', c', e, h2, h3, h4, h5, h6⟩ := h
  injection e with e1 e2 e3
  injection e1 with e1
  injection e1 with e1 _ _
  subst e1 e3
  have hl : (l.take k).length = k := by rw [List.length_take]; omega
  refine ⟨g, c, by rw [hl], by omega, h3, h4, h5, fun i hi => ?_⟩
  rw [h6 i (by omega)]
  have : (l.take k).getD i [] = l.getD i [] := by
    rw [List.getD_eq_getElem?_getD, List.getD_eq_getElem?_getD, List.getElem?_take, if_pos (by omega)]
  rw [this]
theorem split1_pos (c : UInt8) (s : List UInt8) : 0 < (split1 c s).length := List.length_pos_iff.2 (split1_ne c s)
theorem split1_len (c : UInt8) (s : List UInt8) : (split1 c s).length ≤ s.length + 1 := by
  rcases cut_cases c s with ⟨h, _⟩ | ⟨a, b, h, hs, _⟩
  · rw [split1_none h]; simp
  · subst hs
    have := split1_len c b
    rw [split1_hit h, List.length_cons, List.length_append, List.length_cons]
    omega
termination_by s.length
decreasing_by all_goals (simp_all <;> omega)

def LinesPost (t : List UInt8) (w : World) (e : Ending) (w' : World) : Prop := ∃ v, e = .returned v ∧ LinesIn w' w.heap.size v (linesOf t) ∧ Below w.heap.size w w'

set_option maxHeartbeats 1000000 in
theorem SplitLines_any (t : List UInt8) (B : Nat) (w : World) (hw : Std B w) (hl : t.length ≤ 2000000) :
    Calls Tryz.prog 50 #[(Value.string ⟨(t).toArray⟩)] w (LinesPost t w) := by
  obtain ⟨m, hm⟩ := hw.1
  obtain ⟨hs1, hs2⟩ := splitB_eq 10 t
  have hrow := row_new w ((split1 10 t).map (fun s => (Value.string ⟨(s).toArray⟩))).toArray 9
  have hbel : Below w.heap.size w (w.alloc (.cells ((split1 10 t).map (fun s => (Value.string ⟨(s).toArray⟩))).toArray 9)) := (Below.refl _ _).alloc (Nat.le_refl _) _
  have hcell : ∀ i, i < (split1 10 t).length → (w.alloc (.cells ((split1 10 t).map (fun s => (Value.string ⟨(s).toArray⟩))).toArray 9)).cell? ⟨w.heap.size, i, none⟩ = some (Value.string ⟨((split1 10 t).getD i []).toArray⟩) := by
    intro i hi
    rw [row_cell hrow, List.getElem?_toArray, List.getElem?_map, List.getElem?_eq_getElem hi, List.getD_eq_getElem?_getD, List.getElem?_eq_getElem hi]
    rfl
  have hlen := split1_len 10 t
  have hpos := split1_pos 10 t
  have hlin : LinesIn (w.alloc (.cells ((split1 10 t).map (fun s => (Value.string ⟨(s).toArray⟩))).toArray 9)) w.heap.size (.slice (some ⟨w.heap.size, 0, none⟩) (split1 10 t).length (split1 10 t).length) (split1 10 t) :=
    ⟨_, _, rfl, Nat.le_refl _, by unfold maxLen; omega, Nat.le_refl _, ⟨_, _, hrow⟩, hcell⟩
  have HC : Hid (Calls Tryz.prog 82 #[(Value.string ⟨(t).toArray⟩), (Value.string ⟨([10]).toArray⟩)] w fun e w' => e = .returned (.slice (some ⟨w.heap.size, 0, none⟩) (split1 10 t).length (split1 10 t).length) ∧ w.alloc (.cells ((split1 10 t).map (fun s => (Value.string ⟨(s).toArray⟩))).toArray 9) = w') := by
    refine (Tryz.strings_Split ⟨t.toArray⟩ ⟨#[10]⟩ m w (by rw [size_str]; omega) hm (by decide)).mono ?_
    rintro e w' ⟨rfl, rfl⟩
    rw [hs1, hs2]
    exact ⟨rfl, rfl⟩
  have HLAST := Lib.hid (dropLast_last (split1_ne 10 t))
  have hk := hcell ((split1 10 t).length - 1) (by omega)
  have HT := Lib.hid (hlin.take (k := (split1 10 t).length - 1) (by omega))
  have HLIN := Lib.hid hlin
  have HB := Lib.hid hbel
  have hw1 : (((split1 10 t).length : Int) - 1).toNat = (split1 10 t).length - 1 := by omega
  have hcast : (((split1 10 t).length : Int) - 1) = (((split1 10 t).length - 1 : Nat) : Int) := by omega
  have HPOST : Hid (linesOf t = dropLastNil (split1 10 t)) := rfl
  clear hs1 hs2 hrow hbel hcell hlin hm hw
  generalize (w.alloc (.cells ((split1 10 t).map (fun s => (Value.string ⟨(s).toArray⟩))).toArray 9)) = W at *
  generalize hL : (split1 10 t).length = L at *
  generalize hx : (split1 10 t).getD (L - 1) [] = x at *
  by_cases hxn : x = []
  · have HP : Hid (LinesIn W w.heap.size (.slice (some ⟨w.heap.size, 0, none⟩) (L - 1) L) (linesOf t)) := by
      rw [HPOST.out, HLAST.out, if_pos hxn]
      exact HT.out
    clear HT HLAST HPOST HLIN hL hx
    subst hxn
    go_enter Tryz.func50, Tryz.ntmps50
    go_wp2_with fail
    refine HC.out.mono ?_
    rintro e w' ⟨rfl, rfl⟩
    go_wp2_with fail
    go_ret
    exact ⟨_, rfl, HP.out, HB.out⟩
  · have HP : Hid (LinesIn W w.heap.size (.slice (some ⟨w.heap.size, 0, none⟩) L L) (linesOf t)) := by
      rw [HPOST.out, HLAST.out, if_neg hxn]
      exact HLIN.out
    have hxb : (x == ([] : List UInt8)) = false := beq_eq_false_iff_ne.2 hxn
    clear HT HLAST HPOST HLIN hL hx hxn
    go_enter Tryz.func50, Tryz.ntmps50
    go_wp2_with fail
    refine HC.out.mono ?_
    rintro e w' ⟨rfl, rfl⟩
    go_wp2_with fail
    go_ret
    exact ⟨_, rfl, HP.out, HB.out⟩

theorem OwnS.lines {w : World} {base : Nat} {v : Value} {l : List (List UInt8)} (h : OwnS w base v l) (hl : 0 < l.length) : LinesIn w base v l := by
  obtain ⟨g, c, hv, _, hg, hb⟩ := h.cell hl
  obtain ⟨p, c', hv', h1, h2⟩ := h.form
  rw [hv] at hv'
  injection hv' with _ _ e3
  subst e3
  have hrow : ∃ cur fr, w.heap[g]? = some (.cells cur 9 fr) := by
    rcases h.2 with ⟨e, _⟩ | ⟨g', _, cur, e, _, h5, _⟩
    · rw [hv] at e; cases e
    · rw [hv] at e
      injection e with e1 _ _
      injection e1 with e1
      injection e1 with e1 _ _
      subst e1
      exact ⟨cur, _, h5⟩
  refine ⟨g, c, hv, h1, h2, hb, hrow, fun i hi => ?_⟩
  obtain ⟨g', c'', hv'', hc, _, _⟩ := h.cell hi
  rw [hv] at hv''
  injection hv'' with e1 _ _
  injection e1 with e1
  injection e1 with e1 _ _
  subst e1
  exact hc

set_option maxHeartbeats 1000000 in
theorem sSplitLines_any (t : List UInt8) (w : World) (hl : t.length ≤ 2000000) :
    Calls Tryz.prog 57 #[(Value.string ⟨(t).toArray⟩)] w (LinesPost t w) := by
  have HC := Lib.hid (SplitAny_any t 10 w (by omega))
  have hlen := split1_len 10 t
  have hpos := split1_pos 10 t
  have HLAST := Lib.hid (dropLast_last (split1_ne 10 t))
  have HPOST : Hid (linesOf t = dropLastNil (split1 10 t)) := rfl
  go_enter Tryz.func57, Tryz.ntmps57
  go_wp2_with fail
  refine HC.out.mono ?_
  rintro e W ⟨v, rfl, hown, hbel⟩
  have hlin := hown.lines hpos
  obtain ⟨g, c, rfl, hc1, hc2, hb, hg, hcell⟩ := hlin
  have hlin := hown.lines hpos
  have hk := hcell ((split1 10 t).length - 1) (by omega)
  have HT := Lib.hid (hlin.take (k := (split1 10 t).length - 1) (by omega))
  have HLIN := Lib.hid hlin
  have HB := Lib.hid hbel
  have hw1 : (((split1 10 t).length : Int) - 1).toNat = (split1 10 t).length - 1 := by omega
  have hcast : (((split1 10 t).length : Int) - 1) = (((split1 10 t).length - 1 : Nat) : Int) := by omega
  clear HC hown hlin hcell hbel
  generalize hL : (split1 10 t).length = L at *
  generalize hx : (split1 10 t).getD (L - 1) [] = x at *
  by_cases hxn : x = []
  · have HP : Hid (LinesIn W w.heap.size (.slice (some ⟨g, 0, none⟩) (L - 1) c) (linesOf t)) := by
      rw [HPOST.out, HLAST.out, if_pos hxn]
      exact HT.out
    clear HT HLAST HPOST HLIN hL hx
    subst hxn
    go_wp2_with fail
    go_ret
    exact ⟨_, rfl, HP.out, HB.out⟩
  · have HP : Hid (LinesIn W w.heap.size (.slice (some ⟨g, 0, none⟩) L c) (linesOf t)) := by
      rw [HPOST.out, HLAST.out, if_neg hxn]
      exact HLIN.out
    have hxb : (x == ([] : List UInt8)) = false := beq_eq_false_iff_ne.2 hxn
    clear HT HLAST HPOST HLIN hL hx hxn
    go_wp2_with fail
    go_ret
    exact ⟨_, rfl, HP.out, HB.out⟩
end Go.Proofs.YtnpfmmdekjjnjaaGreatDoor

/- Lists of steps in memory. -/
namespace Go.Proofs.YtnpfmmdekjjnjaaGreatDoor
open Go Go.RowKit Pl

/-- A step's seven cells, and what its four slices hold. -/
structure StepD where
  z : Int
  sx : Bool
  sy : Bool
  a : Value
  b : Value
  c : Value
  d : Value
  l1 : List Int
  l2 : List Int
  l3 : List Int
  l4 : List Int
def StepD.cells (x : StepD) : List Value := [.int .i64 x.z, .bool x.sx, x.a, x.b, .bool x.sy, x.c, x.d]
def StepD.total (x : StepD) : Nat := x.l1.length + x.l2.length + x.l3.length + x.l4.length + 3
/-- The steps' slices, one step's ahead of the next one's. -/
def Inner (w : World) (lo hi : Nat) : List StepD → Prop
  | [] => lo ≤ hi
  | x :: r => ∃ mid, lo ≤ mid ∧ mid ≤ hi ∧ Quad w lo mid x.a x.b x.c x.d x.l1 x.l2 x.l3 x.l4 ∧ Inner w mid hi r
theorem Inner.le {w : World} : ∀ {ds : List StepD} {lo hi : Nat}, Inner w lo hi ds → lo ≤ hi
  | [], _, _, h => h
  | _ :: _, _, _, ⟨_, h1, h2, _⟩ => Nat.le_trans h1 h2
theorem Inner.map {w w' : World} : ∀ {ds : List StepD} {lo hi : Nat}, Inner w lo hi ds → (∀ (lo' hi' : Nat) (v : Value) (l : List Int), lo ≤ lo' → hi' ≤ hi → OwnR w lo' hi' v l → OwnR w' lo' hi' v l) → Inner w' lo hi ds
  | [], _, _, h, _ => h
  | x :: r, lo, hi, ⟨mid, h1, h2, ⟨m1, m2, m3, e1, e2, e3, e4, o1, o2, o3, o4⟩, h4⟩, f =>
    ⟨mid, h1, h2, ⟨m1, m2, m3, e1, e2, e3, e4, f _ _ _ _ (Nat.le_refl _) (by omega) o1, f _ _ _ _ (by omega) (by omega) o2, f _ _ _ _ (by omega) (by omega) o3, f _ _ _ _ (by omega) h2 o4⟩,
      h4.map fun lo' hi' v l g1 g2 => f lo' hi' v l (Nat.le_trans h1 g1) g2⟩
theorem Inner.below {w w' : World} {ds : List StepD} {lo hi : Nat} (h : Inner w lo hi ds) (hb : Below w.heap.size w w') : Inner w' lo hi ds := h.map fun _ _ _ _ _ _ o => o.below hb
theorem Inner.snoc {w : World} : ∀ {ds : List StepD} {lo mid hi : Nat} {x : StepD}, Inner w lo mid ds → Quad w mid hi x.a x.b x.c x.d x.l1 x.l2 x.l3 x.l4 → mid ≤ hi → Inner w lo hi (ds ++ [x])
  | [], _, _, _, _, h, q, hm => ⟨_, Nat.le_trans h hm, Nat.le_refl _, q.wide h (Nat.le_refl _), Nat.le_refl _⟩
  | _ :: _, _, _, _, _, ⟨m, h1, h2, h3, h4⟩, q, hm => ⟨m, h1, Nat.le_trans h2 hm, h3, Inner.snoc h4 q hm⟩
theorem Inner.wide {w : World} : ∀ {ds : List StepD} {lo hi hi' : Nat}, Inner w lo hi ds → hi ≤ hi' → Inner w lo hi' ds
  | [], _, _, _, h, e => Nat.le_trans h e
  | _ :: _, _, _, _, ⟨m, h1, h2, h3, h4⟩, e => ⟨m, h1, Nat.le_trans h2 e, h3, h4.wide e⟩
/-- Two rows of different types lie apart. -/
theorem rows_apart {w : World} {b1 b2 s1 s2 n1 n2 : Nat} {e1 e2 : TypeId} {v1 v2 : Value} {x1 x2 : List Value} (h1 : w.ownsRow b1 e1 s1 v1 n1 x1) (h2 : w.ownsRow b2 e2 s2 v2 n2 x2) (he : e1 ≠ e2) : v1.ownBlock = none ∨ v1.ownBlock ≠ v2.ownBlock := by
  rcases h1.2 with ⟨rfl, _⟩ | ⟨g, cap, cur, rfl, _, hg, _⟩
  · exact .inl rfl
  · right
    rcases h2.2 with ⟨rfl, _⟩ | ⟨g', cap', cur', rfl, _, hg', _⟩
    · simp [Value.ownBlock]
    · intro e
      simp only [Value.ownBlock, Option.some.injEq] at e
      subst e
      rw [hg] at hg'
      injection hg' with hg'
      injection hg' with _ hg' _
      exact he hg'
theorem step_int : (3 : TypeId) ≠ 37 := by decide
/-- A slice of steps that the call itself has made, in blocks from lo up to hi. -/
def Steps (w : World) (lo hi : Nat) (v : Value) (ds : List StepD) : Prop := w.ownsRow lo 37 7 v ds.length (ds.flatMap StepD.cells) ∧ Inner w lo hi ds
theorem Steps.below {w w' : World} {lo hi : Nat} {v : Value} {ds : List StepD} (h : Steps w lo hi v ds) (hb : Below w.heap.size w w') : Steps w' lo hi v ds := by
  refine ⟨World.ownsRow.kept (row := none) h.1 ⟨hb.os, hb.tape, hb.output, hb.size, fun k hk _ => hb.block k hk⟩ ?_, h.2.below hb⟩
  cases hv : v.ownBlock <;> simp
theorem Steps.nil_ (w : World) (lo hi : Nat) (h : lo ≤ hi) : Steps w lo hi (.slice none 0 0) [] := ⟨World.ownsRow_nil _ _ _ _, h⟩
theorem Steps.made (w : World) (base : Nat) (hb : base ≤ w.heap.size) : Steps (w.alloc (.cells #[] 37)) base w.heap.size (.slice (some ⟨w.heap.size, 0, none⟩) 0 0) [] := ⟨World.ownsRow_made w #[] 0 hb (Nat.zero_le _) rfl, hb⟩
theorem Steps.form {w : World} {lo hi : Nat} {v : Value} {ds : List StepD} (h : Steps w lo hi v ds) : ∃ p c, v = .slice p ds.length c ∧ ds.length ≤ c ∧ c ≤ maxLen := by
  rcases h.1.2 with ⟨rfl, h0⟩ | ⟨g, cap, cur, rfl, hb, hg, hnc, hm, hs, htake⟩
  · exact ⟨none, 0, by rw [h0], by omega, Nat.zero_le _⟩
  · exact ⟨_, _, rfl, hnc, hm⟩
theorem info_step : (Tryz.prog.info? 37).map (fun i => (i.zero, i.size, i.bytes)) = some (some (.agg #[.int .i64 0, .bool false, .slice none 0 0, .slice none 0 0, .bool false, .slice none 0 0, .slice none 0 0]), 7, 120) := by kernel_rfl
theorem StepD.cells_len (ds : List StepD) : (ds.flatMap StepD.cells).length = ds.length * 7 := by
  induction ds with
  | nil => rfl
  | cons x r ih => rw [List.flatMap_cons, List.length_append, ih, List.length_cons]; simp [StepD.cells]; omega
theorem StepD.cells_at : ∀ (ds : List StepD) {i j : Nat} {x : StepD}, ds[i]? = some x → j < 7 → (ds.flatMap StepD.cells)[i * 7 + j]? = x.cells[j]?
  | [], i, j, x, h, _ => by simp at h
  | y :: r, 0, j, x, h, hj => by
    simp only [List.getElem?_cons_zero, Option.some.injEq] at h
    subst h
    rw [List.flatMap_cons, List.getElem?_append_left (by simp [StepD.cells]; omega)]
    simp
  | y :: r, i + 1, j, x, h, hj => by
    rw [List.getElem?_cons_succ] at h
    rw [List.flatMap_cons, List.getElem?_append_right (by simp [StepD.cells]; omega), show (i + 1) * 7 + j - y.cells.length = i * 7 + j by simp [StepD.cells]; omega]
    exact StepD.cells_at r h hj
/-- The cells of a step. -/
theorem Steps.cell {w : World} {lo hi : Nat} {v : Value} {ds : List StepD} (h : Steps w lo hi v ds) {i : Nat} {x : StepD} (hx : ds[i]? = some x) :
    ∃ g c, v = .slice (some ⟨g, 0, none⟩) ds.length c ∧ lo ≤ g ∧ g < w.heap.size ∧ (∀ j, j < 7 → w.cell? ⟨g, i * 7 + j, none⟩ = x.cells[j]?) ∧ (∀ j, w.frozen? ⟨g, j, none⟩ = false) := by
  have hi := (List.getElem?_eq_some_iff.1 hx).1
  rcases h.1.2 with ⟨rfl, h0⟩ | ⟨g, cap, cur, rfl, hb, hg, hnc, hm, hs, htake⟩
  · omega
  · refine ⟨g, cap, rfl, hb, (Array.getElem?_eq_some_iff.1 hg).1, fun j hj => ?_, fun j => by simp [World.frozen?, hg]⟩
    rw [cell_of_row w g _ cur 37 (0, 0) hg, ← Array.getElem?_toList, ← StepD.cells_at ds hx hj, ← htake, List.getElem?_take, if_pos (by omega)]

theorem Inner.grown {w w' : World} {lo hi : Nat} {ds : List StepD} {b n : Nat} {v : Value} {xs : List Value} (h : Inner w lo hi ds) (hv : w.ownsRow b 37 7 v n xs) (hg : w.grownBy w' v.ownBlock) : Inner w' lo hi ds :=
  h.map fun _ _ _ _ _ _ o => ⟨o.1.kept hg (rows_apart o.1 hv step_int), o.2⟩
theorem Quad.grown {w w' : World} {lo hi : Nat} {a b c d : Value} {l1 l2 l3 l4 : List Int} {b' n : Nat} {v : Value} {xs : List Value} (h : Quad w lo hi a b c d l1 l2 l3 l4) (hv : w.ownsRow b' 37 7 v n xs) (hg : w.grownBy w' v.ownBlock) : Quad w' lo hi a b c d l1 l2 l3 l4 := by
  obtain ⟨m1, m2, m3, h1, h2, h3, h4, o1, o2, o3, o4⟩ := h
  have f : ∀ {lo' hi' : Nat} {u : Value} {l : List Int}, OwnR w lo' hi' u l → OwnR w' lo' hi' u l := fun o => ⟨o.1.kept hg (rows_apart o.1 hv step_int), o.2⟩
  exact ⟨m1, m2, m3, h1, h2, h3, h4, f o1, f o2, f o3, f o4⟩
theorem Quad.slices {w : World} {lo hi : Nat} {a b c d : Value} {l1 l2 l3 l4 : List Int} (h : Quad w lo hi a b c d l1 l2 l3 l4) : a.oneCell' = true ∧ b.oneCell' = true ∧ c.oneCell' = true ∧ d.oneCell' = true := by
  obtain ⟨_, _, _, _, _, _, _, _, _, _, _, _, rfl, rfl, rfl, rfl⟩ := h.form
  exact ⟨rfl, rfl, rfl, rfl⟩
/-- 'append(s, x)' of a step. -/
theorem push_step {w : World} {v : Value} {ds : List StepD} {lo hi hi' : Nat} {ops : Array Oper} {rest : List Oper} {o : Oper} {a : Act} {Q : Exit → Act → World → Prop} (x : StepD) (s y : Operand) (hgd : o.guard = none)
    (ho : o.op = .call { callee := .builtin .append, args := #[s, y], argTypes := #[44, 44] }) (hs : a.eval s = v) (hown : Steps w lo hi v ds)
    (hq : Quad w hi hi' x.a x.b x.c x.d x.l1 x.l2 x.l3 x.l4) (hle : hi ≤ hi') (hbase : hi' ≤ w.heap.size)
    {A : Nat} (hA : A = w.heap.size) (hx : a.eval y = .slice (some ⟨A, 0, none⟩) 1 1) (hl : ds.length ≤ 1000000000)
    (h : ∀ v' w', Steps w' lo hi' v' (ds ++ [x]) → Below lo w w' → w.heap.size ≤ w'.heap.size → KeptNot 37 w w' → wpList Tryz.prog ops Q rest (a.put o.dst v') w') : wpList Tryz.prog ops Q (o :: rest) a (w.alloc (.cells x.cells.toArray 37)) := by
  subst hA
  obtain ⟨i, hi1, hz, hz1, hz2⟩ := info_parts info_step
  have hlo : lo ≤ w.heap.size := Nat.le_trans hown.2.le (Nat.le_trans hle hbase)
  have hba : Below w.heap.size w (w.alloc (.cells x.cells.toArray 37)) := (Below.refl _ _).alloc (Nat.le_refl _) _
  have hrow := row_new w x.cells.toArray 37
  have hsl := hq.slices
  have hown1 := World.ownsRow.alloc hown.1 (.cells x.cells.toArray 37)
  refine wpList_append_own _ hgd s y 44 ho lo 37 i _ 7 120 Tryz.underlying44 hi1 hz hz1 hz2 rfl (by decide) v ds.length _ hs hown1 ⟨w.heap.size, 0, none⟩ 1 1 x.cells hx rfl
    ?_ ?_ ?_ ?_ ?_ ?_
  · intro j u hu
    have : ((⟨w.heap.size, 0, none⟩ : Addr).add j) = ⟨w.heap.size, j, none⟩ := by cases j <;> simp [Addr.add]
    rw [this, row_cell hrow, List.getElem?_toArray]
    exact hu
  · intro u hu
    simp only [StepD.cells, List.mem_cons, List.not_mem_nil, or_false] at hu
    rcases hu with rfl | rfl | rfl | rfl | rfl | rfl | rfl
    · rfl
    · rfl
    · exact hsl.1
    · exact hsl.2.1
    · rfl
    · exact hsl.2.2.1
    · exact hsl.2.2.2
  · simp only [maxLen]; omega
  · omega
  · simp; omega
  · intro v' w' h1 h2 _
    have hg : w.grownBy w' v.ownBlock := ⟨h2.os, h2.tape, h2.output, Nat.le_trans (by simp) h2.size, fun k hk hne => (h2.block k (by simp; omega) hne).trans (Below.heap_alloc w _ k hk)⟩
    refine h v' w' ⟨?_, ?_⟩ ((Below.refl _ _).grown hg hlo fun k hk => (World.ownsRow.lt hown.1 k hk).1) hg.size ?_
    · rw [List.length_append, List.length_singleton, List.flatMap_append, List.flatMap_singleton]
      exact h1
    · exact ((hown.2.below hba).grown hown1 h2).snoc ((hq.below hba).grown hown1 h2) hle
    · intro k cs t f hk ht
      refine hg.block k (Array.getElem?_eq_some_iff.1 hk).1 ?_
      intro e
      rcases hown.1.2 with ⟨ev, _⟩ | ⟨g, cap, cur, ev, _, hgr, _⟩
      · rw [ev] at e; cases e
      · rw [ev] at e
        injection e with e
        simp only at e
        subst e
        rw [hk] at hgr
        injection hgr with hgr
        injection hgr with _ hgr _
        exact ht hgr
end Go.Proofs.YtnpfmmdekjjnjaaGreatDoor
