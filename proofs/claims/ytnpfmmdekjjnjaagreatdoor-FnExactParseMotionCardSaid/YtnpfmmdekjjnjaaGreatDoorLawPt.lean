/- Contracts of the laws' own helpers on points: eq, mark, held. -/
import Derived.Test.YtnpfmmdekjjnjaaGreatDoorLawInts
import Derived.Test.YtnpfmmdekjjnjaaGreatDoorWordPlain
namespace Go.Proofs.YtnpfmmdekjjnjaaGreatDoor
open Go Go.RowKit Pl

/-- Four lists in new memory, one ahead of the other. -/
def Quad (w : World) (lo hi : Nat) (a b c d : Value) (l1 l2 l3 l4 : List Int) : Prop :=
  ∃ m1 m2 m3, lo ≤ m1 ∧ m1 ≤ m2 ∧ m2 ≤ m3 ∧ m3 ≤ hi ∧ OwnR w lo m1 a l1 ∧ OwnR w m1 m2 b l2 ∧ OwnR w m2 m3 c l3 ∧ OwnR w m3 hi d l4
theorem Quad.below {w w' : World} {lo hi : Nat} {a b c d : Value} {l1 l2 l3 l4 : List Int} (h : Quad w lo hi a b c d l1 l2 l3 l4) (hb : Below w.heap.size w w') : Quad w' lo hi a b c d l1 l2 l3 l4 := by
  obtain ⟨m1, m2, m3, h1, h2, h3, h4, o1, o2, o3, o4⟩ := h
  exact ⟨m1, m2, m3, h1, h2, h3, h4, o1.below hb, o2.below hb, o3.below hb, o4.below hb⟩
theorem Quad.wide {w : World} {lo lo' hi hi' : Nat} {a b c d : Value} {l1 l2 l3 l4 : List Int} (h : Quad w lo hi a b c d l1 l2 l3 l4) (e1 : lo' ≤ lo) (e2 : hi ≤ hi') : Quad w lo' hi' a b c d l1 l2 l3 l4 := by
  obtain ⟨m1, m2, m3, h1, h2, h3, h4, o1, o2, o3, o4⟩ := h
  exact ⟨m1, m2, m3, by omega, h2, h3, by omega, o1.wide e1 (Nat.le_refl _), o2, o3, o4.wide (Nat.le_refl _) e2⟩
theorem FreshPt.quad {w : World} {lo hi : Nat} {n1 n2 : Bool} {a b c d : Value} {p : Pt} (h : FreshPt w lo hi (.agg #[.bool n1, a, b, .bool n2, c, d]) p) :
    Quad w lo hi a b c d (limbs p.x.num) (limbs p.x.den) (limbs p.y.num) (limbs p.y.den) := by
  obtain ⟨mid, a', b', c', d', e, h2, h3, ⟨m1, x1, x2, hx, h5, h6, o1, o2, _⟩, ⟨m2, y1, y2, hy, h7, h8, o3, o4, _⟩⟩ := h
  injection e with e; injection e with e
  injection e with _ e; injection e with e1 e; injection e with e2 e; injection e with _ e; injection e with e3 e; injection e with e4 _
  injection hx with hx; injection hx with hx
  injection hx with _ hx; injection hx with f1 hx; injection hx with f2 _
  injection hy with hy; injection hy with hy
  injection hy with _ hy; injection hy with f3 hy; injection hy with f4 _
  subst e1 e2 e3 e4 f1 f2 f3 f4
  exact ⟨m1, mid, m2, h5, h6, h7, h8, o1, o2, o3, o4⟩
theorem Quad.nil_ (w : World) (g : Nat) (_hg : g = w.heap.size) : Quad w g g (.slice none 0 0) (.slice none 0 0) (.slice none 0 0) (.slice none 0 0) [] [] [] [] := by
  have h : OwnR w g g (.slice none 0 0) [] := ⟨World.ownsRow_nil _ _ _ _, fun _ h => by cases h⟩
  exact ⟨g, g, g, Nat.le_refl _, Nat.le_refl _, Nat.le_refl _, Nat.le_refl _, h, h, h, h⟩

/-- The one world is the other but for blocks from lo up to hi, and new ones. -/
structure Within (lo hi : Nat) (w w' : World) : Prop where
  os : w'.os = w.os
  tape : w'.tape = w.tape
  output : w'.output = w.output
  size : w.heap.size ≤ w'.heap.size
  block : ∀ k, k < w.heap.size → (k < lo ∨ hi ≤ k) → w'.heap[k]? = w.heap[k]?
theorem Within.trans {lo hi : Nat} {w w' w'' : World} (h : Within lo hi w w') (h' : Within lo hi w' w'') : Within lo hi w w'' :=
  ⟨h'.os.trans h.os, h'.tape.trans h.tape, h'.output.trans h.output, Nat.le_trans h.size h'.size, fun k hk e => (h'.block k (Nat.lt_of_lt_of_le hk h.size) e).trans (h.block k hk e)⟩
theorem Within.wide {lo hi lo' hi' : Nat} {w w' : World} (h : Within lo hi w w') (h1 : lo' ≤ lo) (h2 : hi ≤ hi') : Within lo' hi' w w' :=
  ⟨h.os, h.tape, h.output, h.size, fun k hk e => h.block k hk (by omega)⟩
theorem Within.of_below {lo hi : Nat} {w w' : World} (h : Below w.heap.size w w') : Within lo hi w w' := ⟨h.os, h.tape, h.output, h.size, fun k hk _ => h.block k hk⟩
theorem Within.below {lo hi : Nat} {w w' : World} (h : Within lo hi w w') (hl : lo ≤ w.heap.size) : Below lo w w' :=
  ⟨h.os, h.tape, h.output, h.size, fun k hk => h.block k (Nat.lt_of_lt_of_le hk hl) (.inl hk)⟩
theorem Within.of_grown {lo hi : Nat} {w w' : World} {v : Value} {l : List Int} (h : OwnR w lo hi v l) (hg : w.grownBy w' v.ownBlock) : Within lo hi w w' := by
  refine ⟨hg.os, hg.tape, hg.output, hg.size, fun k hk e => hg.block k hk ?_⟩
  cases hv : v.ownBlock with
  | none => simp
  | some g =>
    have h1 := (World.ownsRow.lt h.1 g hv).1
    have h2 := h.2 g hv
    intro e'
    injection e' with e'
    omega
theorem OwnR.within {lo hi lo' hi' : Nat} {w w' : World} {v : Value} {l : List Int} (h : OwnR w lo' hi' v l) (hw : Within lo hi w w') (hd : hi' ≤ lo ∨ hi ≤ lo') : OwnR w' lo' hi' v l := by
  refine ⟨⟨h.1.1, ?_⟩, h.2⟩
  rcases h.1.2 with ⟨h1, h2⟩ | ⟨g, cap, cur, h1, h2, h3, h4⟩
  · exact .inl ⟨h1, h2⟩
  · have h5 := h.2 g (by rw [h1]; rfl)
    exact .inr ⟨g, cap, cur, h1, h2, (hw.block g (Array.getElem?_eq_some_iff.1 h3).1 (by omega)).trans h3, h4⟩
theorem row_within {lo hi : Nat} {w w' : World} {g : Nat} {cs : Array Value} {t : TypeId} (h : w.heap[g]? = some (.cells cs t)) (hw : Within lo hi w w') (hd : g < lo ∨ hi ≤ g) : w'.heap[g]? = some (.cells cs t) :=
  (hw.block g (Array.getElem?_eq_some_iff.1 h).1 hd).trans h
theorem OwnR.ints0 {w : World} {lo hi : Nat} {v : Value} {l : List Int} (h : OwnR w lo hi v l) : Ints w 0 w.heap.size v l := h.1.ints.wide (Nat.zero_le _) (Nat.le_refl _)
def Same (w : World) (va vb : Value) : Prop := ∃ l, Ints w 0 w.heap.size va l ∧ Ints w 0 w.heap.size vb l
theorem Same.on {w w' : World} {va vb : Value} (h : Same w va vb) (hb : Below w.heap.size w w') : Same w' va vb := by
  obtain ⟨l, h1, h2⟩ := h
  exact ⟨l, h1.on hb, h2.on hb⟩

theorem eqIntS_same (va vb : Value) (w : World) (h : Same w va vb) : Calls Tryz.prog 94 #[va, vb] w fun e w' => e = .returned (.bool true) ∧ Below w.heap.size w w' := by
  obtain ⟨l, h1, h2⟩ := h
  exact (eqIntS_any l va vb w h1 h2).mono fun _ _ ⟨he, hd⟩ => ⟨he, hd.below⟩

theorem eqBigInt_any (n : Bool) (va vb : Value) (w : World) (h : Same w va vb) : Calls Tryz.prog 93 #[.agg #[.bool n, va], .agg #[.bool n, vb]] w fun e w' => e = .returned (.bool true) ∧ Below w.heap.size w w' := by
  have hb1 : Below w.heap.size w (w.alloc (.cells #[.bool n, va] 24)) := (Below.refl _ _).alloc (Nat.le_refl _) _
  have hb2 : Below w.heap.size w ((w.alloc (.cells #[.bool n, va] 24)).alloc (.cells #[.bool n, vb] 24)) := hb1.alloc (by simp) _
  have HC := Lib.hid (eqIntS_same va vb _ (h.on hb2))
  have hn : (n != n) = false := by simp
  go_enter Tryz.func93, Tryz.ntmps93
  go_wp2_with fail
  refine HC.out.mono ?_
  rintro e w1 ⟨rfl, hb3⟩
  go_wp2_with fail
  go_ret
  exact ⟨rfl, hb2.trans (hb3.mono hb2.size)⟩

theorem eqRat_any (n : Bool) (a b a' b' : Value) (w : World) (h1 : Same w a a') (h2 : Same w b b') : Calls Tryz.prog 69 #[.agg #[.bool n, a, b], .agg #[.bool n, a', b']] w fun e w' => e = .returned (.bool true) ∧ Below w.heap.size w w' := by
  have hb1 : Below w.heap.size w (w.alloc (.cells #[.bool n, a, b] 26)) := (Below.refl _ _).alloc (Nat.le_refl _) _
  have hb2 : Below w.heap.size w ((w.alloc (.cells #[.bool n, a, b] 26)).alloc (.cells #[.bool n, a', b'] 26)) := hb1.alloc (by simp) _
  have HC := Lib.hid (eqBigInt_any n a a' _ (h1.on hb2))
  have HS := Lib.hid (h2.on hb2)
  have hrA := row_on (row_new w #[.bool n, a, b] 26) ((Below.refl _ _).alloc (Nat.le_refl _) (.cells #[.bool n, a', b'] 26))
  have hrB := row_new (w.alloc (.cells #[.bool n, a, b] 26)) #[.bool n, a', b'] 26
  rw [show (w.alloc (.cells #[.bool n, a, b] 26)).heap.size = w.heap.size + 1 by simp] at hrB
  go_enter Tryz.func69, Tryz.ntmps69
  go_wp2_with fail
  refine HC.out.mono ?_
  rintro e w1 ⟨rfl, hb3⟩
  have qA := row_cell (row_on hrA hb3) 2
  have qB := row_cell (row_on hrB hb3) 2
  simp only [List.getElem?_toArray, List.getElem?_cons_zero, List.getElem?_cons_succ] at qA qB
  have HC2 := Lib.hid (eqIntS_same b b' _ (HS.out.on hb3))
  have hbw := hb2.trans (hb3.mono hb2.size)
  clear hrA hrB hb3 hb2 hb1
  go_wp2_with fail
  refine HC2.out.mono ?_
  rintro e w2 ⟨rfl, hb4⟩
  go_wp2_with fail
  go_ret
  exact ⟨rfl, hbw.trans (hb4.mono hbw.size)⟩

theorem eqPoint_any (n m : Bool) (a b c d a' b' c' d' : Value) (w : World) (h1 : Same w a a') (h2 : Same w b b') (h3 : Same w c c') (h4 : Same w d d') :
    Calls Tryz.prog 36 #[.agg #[.bool n, a, b, .bool m, c, d], .agg #[.bool n, a', b', .bool m, c', d']] w fun e w' => e = .returned (.bool true) ∧ Below w.heap.size w w' := by
  have hb1 : Below w.heap.size w (w.alloc (.cells #[.bool n, a, b, .bool m, c, d] 28)) := (Below.refl _ _).alloc (Nat.le_refl _) _
  have hb2 : Below w.heap.size w ((w.alloc (.cells #[.bool n, a, b, .bool m, c, d] 28)).alloc (.cells #[.bool n, a', b', .bool m, c', d'] 28)) := hb1.alloc (by simp) _
  have HC := Lib.hid (eqRat_any n a b a' b' _ (h1.on hb2) (h2.on hb2))
  have HS3 := Lib.hid (h3.on hb2)
  have HS4 := Lib.hid (h4.on hb2)
  have hrA := row_on (row_new w #[.bool n, a, b, .bool m, c, d] 28) ((Below.refl _ _).alloc (Nat.le_refl _) (.cells #[.bool n, a', b', .bool m, c', d'] 28))
  have hrB := row_new (w.alloc (.cells #[.bool n, a, b, .bool m, c, d] 28)) #[.bool n, a', b', .bool m, c', d'] 28
  rw [show (w.alloc (.cells #[.bool n, a, b, .bool m, c, d] 28)).heap.size = w.heap.size + 1 by simp] at hrB
  go_enter Tryz.func36, Tryz.ntmps36
  go_wp2_with fail
  refine HC.out.mono ?_
  rintro e w1 ⟨rfl, hb3⟩
  have qA3 := row_cell (row_on hrA hb3) 3
  have qB3 := row_cell (row_on hrB hb3) 3
  have qA4 := row_cell (row_on hrA hb3) 4
  have qB4 := row_cell (row_on hrB hb3) 4
  have qA5 := row_cell (row_on hrA hb3) 5
  have qB5 := row_cell (row_on hrB hb3) 5
  simp only [List.getElem?_toArray, List.getElem?_cons_zero, List.getElem?_cons_succ] at qA3 qB3 qA4 qB4 qA5 qB5
  have HC2 := Lib.hid (eqRat_any m c d c' d' _ (HS3.out.on hb3) (HS4.out.on hb3))
  have hbw := hb2.trans (hb3.mono hb2.size)
  clear hrA hrB hb3 hb2 hb1
  go_wp2_with fail
  refine HC2.out.mono ?_
  rintro e w2 ⟨rfl, hb4⟩
  go_wp2_with fail
  go_ret
  exact ⟨rfl, hbw.trans (hb4.mono hbw.size)⟩

theorem eqPlacement_any (k : Int) (n m : Bool) (a b c d a' b' c' d' : Value) (w : World) (h1 : Same w a a') (h2 : Same w b b') (h3 : Same w c c') (h4 : Same w d d') :
    Calls Tryz.prog 9 #[.agg #[.int .i64 k, .bool n, a, b, .bool m, c, d], .agg #[.int .i64 k, .bool n, a', b', .bool m, c', d']] w fun e w' => e = .returned (.bool true) ∧ Below w.heap.size w w' := by
  have hb1 : Below w.heap.size w (w.alloc (.cells #[.int .i64 k, .bool n, a, b, .bool m, c, d] 30)) := (Below.refl _ _).alloc (Nat.le_refl _) _
  have hb2 : Below w.heap.size w ((w.alloc (.cells #[.int .i64 k, .bool n, a, b, .bool m, c, d] 30)).alloc (.cells #[.int .i64 k, .bool n, a', b', .bool m, c', d'] 30)) := hb1.alloc (by simp) _
  have HC := Lib.hid (eqPoint_any n m a b c d a' b' c' d' _ (h1.on hb2) (h2.on hb2) (h3.on hb2) (h4.on hb2))
  have hk : (k != k) = false := by simp
  go_enter Tryz.func9, Tryz.ntmps9
  go_wp2_with fail
  refine HC.out.mono ?_
  rintro e w1 ⟨rfl, hb3⟩
  go_wp2_with fail
  go_ret
  exact ⟨rfl, hb2.trans (hb3.mono hb2.size)⟩
theorem eqStep_any (k : Int) (n m : Bool) (a b c d a' b' c' d' : Value) (w : World) (h1 : Same w a a') (h2 : Same w b b') (h3 : Same w c c') (h4 : Same w d d') :
    Calls Tryz.prog 14 #[.agg #[.int .i64 k, .bool n, a, b, .bool m, c, d], .agg #[.int .i64 k, .bool n, a', b', .bool m, c', d']] w fun e w' => e = .returned (.bool true) ∧ Below w.heap.size w w' := by
  have hb1 : Below w.heap.size w (w.alloc (.cells #[.int .i64 k, .bool n, a, b, .bool m, c, d] 37)) := (Below.refl _ _).alloc (Nat.le_refl _) _
  have hb2 : Below w.heap.size w ((w.alloc (.cells #[.int .i64 k, .bool n, a, b, .bool m, c, d] 37)).alloc (.cells #[.int .i64 k, .bool n, a', b', .bool m, c', d'] 37)) := hb1.alloc (by simp) _
  have HC := Lib.hid (eqPoint_any n m a b c d a' b' c' d' _ (h1.on hb2) (h2.on hb2) (h3.on hb2) (h4.on hb2))
  have hk : (k != k) = false := by simp
  go_enter Tryz.func14, Tryz.ntmps14
  go_wp2_with fail
  refine HC.out.mono ?_
  rintro e w1 ⟨rfl, hb3⟩
  go_wp2_with fail
  go_ret
  exact ⟨rfl, hb2.trans (hb3.mono hb2.size)⟩

theorem markIntS_r (k : Nat) (l : List Int) (lo hi : Nat) (va : Value) (w : World) (h : OwnR w lo hi va l) (hk : k + l.length ≤ 1099511627776) :
    Calls Tryz.prog 59 #[va, .int .i64 k] w fun e w' => e = .returned (.int .i64 ((k + l.length : Nat) : Int)) ∧ OwnR w' lo hi va (marks k l.length) ∧ Within lo hi w w' :=
  (markIntS_any k l lo va w h.1 hk).mono fun _ _ ⟨he, ho, hg, _⟩ => ⟨he, ⟨ho, h.2⟩, Within.of_grown h hg⟩

theorem markBigInt_any (k : Nat) (n : Bool) (l : List Int) (lo hi : Nat) (va : Value) (w : World) (h : OwnR w lo hi va l) (hk : k + l.length ≤ 1099511627776) :
    Calls Tryz.prog 95 #[.agg #[.bool n, va], .int .i64 k] w fun e w' => e = .returned (.int .i64 ((k + l.length : Nat) : Int)) ∧ OwnR w' lo hi va (marks k l.length) ∧ Within lo hi w w' := by
  have hb1 : Below w.heap.size w (w.alloc (.cells #[.bool n, va] 24)) := (Below.refl _ _).alloc (Nat.le_refl _) _
  have HC := Lib.hid (markIntS_r k l lo hi va _ (h.below hb1) hk)
  have HB := Lib.hid hb1
  clear hb1 h
  generalize k + l.length = m at *
  go_enter Tryz.func95, Tryz.ntmps95
  go_wp2_with fail
  refine HC.out.mono ?_
  rintro e w1 ⟨rfl, ho, hw⟩
  go_wp2_with fail
  go_ret
  exact ⟨rfl, ho, (Within.of_below HB.out).trans hw⟩

theorem markRat_any (k : Nat) (n : Bool) (l1 l2 : List Int) (lo mid hi : Nat) (va vb : Value) (w : World) (h : OwnR w lo mid va l1) (h' : OwnR w mid hi vb l2) (hh : hi ≤ w.heap.size) (h1 : lo ≤ mid) (h2 : mid ≤ hi) (hk : k + l1.length + l2.length ≤ 1099511627776) :
    Calls Tryz.prog 70 #[.agg #[.bool n, va, vb], .int .i64 k] w fun e w' => e = .returned (.int .i64 ((k + l1.length + l2.length : Nat) : Int)) ∧ OwnR w' lo mid va (marks k l1.length) ∧ OwnR w' mid hi vb (marks (k + l1.length) l2.length) ∧ Within lo hi w w' := by
  have hb1 : Below w.heap.size w (w.alloc (.cells #[.bool n, va, vb] 26)) := (Below.refl _ _).alloc (Nat.le_refl _) _
  have HC := Lib.hid (markBigInt_any k n l1 lo mid va _ (h.below hb1) (by omega))
  have HO := Lib.hid (h'.below hb1)
  have HB := Lib.hid hb1
  have hr := row_new w #[.bool n, va, vb] 26
  clear hb1 h h'
  generalize hm : k + l1.length = m at *
  have HM := Lib.hid hm
  clear hm
  generalize hm' : m + l2.length = m' at *
  have HM' := Lib.hid hm'
  clear hm'
  go_enter Tryz.func70, Tryz.ntmps70
  go_wp2_with fail
  refine HC.out.mono ?_
  rintro e w1 ⟨rfl, ho, hw⟩
  have q2 := row_cell (row_within hr hw (.inr (by omega))) 2
  simp only [List.getElem?_toArray, List.getElem?_cons_zero, List.getElem?_cons_succ] at q2
  have HC2 := Lib.hid (markIntS_r m l2 mid hi vb _ (HO.out.within hw (.inr (Nat.le_refl _))) (by rw [HM'.out]; omega))
  have HO2 := Lib.hid ho
  have HW := Lib.hid hw
  clear hr ho hw
  rw [HM'.out] at HC2
  go_wp2_with fail
  refine HC2.out.mono ?_
  rintro e w2 ⟨rfl, ho, hw⟩
  have HO3 := Lib.hid ho
  have HW2 := Lib.hid hw
  clear ho hw
  go_wp2_with fail
  go_ret
  exact ⟨rfl, HO2.out.within HW2.out (.inl (Nat.le_refl _)), HO3.out, (Within.of_below HB.out).trans ((HW.out.wide (Nat.le_refl _) h2).trans (HW2.out.wide h1 (Nat.le_refl _)))⟩
end Go.Proofs.YtnpfmmdekjjnjaaGreatDoor
