/- Which texts are placements and steps: a word, a blank, a point. -/
import Derived.Test.YtnpfmmdekjjnjaaGreatDoorParsePtS
namespace Go.Proofs.YtnpfmmdekjjnjaaGreatDoor
open Go Go.RowKit Pl

def plWords : List (List UInt8) := [[101], [110], [119], [115]]
def stWords : List (List UInt8) := [[114, 105, 103, 104, 116], [109, 111, 118, 101], [108, 101, 102, 116]]
def wordFits (ws : List (List UInt8)) (s : List UInt8) (k : Nat) (p : Pt) : Prop := k < ws.length ∧ ∃ t, s = ws.getD k [] ++ 32 :: t ∧ ptFits t p
def noBlank (ws : List (List UInt8)) : Prop := ∀ x ∈ ws, (32 : UInt8) ∉ x
theorem plWords_no : noBlank plWords := by unfold noBlank plWords; decide
theorem stWords_no : noBlank stWords := by unfold noBlank stWords; decide
theorem noBlank.at {ws : List (List UInt8)} (h : noBlank ws) {k : Nat} (hk : k < ws.length) : (32 : UInt8) ∉ ws.getD k [] := by
  have : ws.getD k [] = ws[k] := by simp [List.getD, hk]
  rw [this]
  exact h _ (List.getElem_mem hk)
theorem ptFits_inj {s : List UInt8} {p q : Pt} (h : ptFits s p) (h' : ptFits s q) : p = q := by
  rcases cut_cases 44 s with ⟨hno, _⟩ | ⟨a, b, hno, rfl, _⟩
  · exact absurd h (ptFits_no hno p)
  · obtain ⟨h1, h2⟩ := (ptFits_iff hno).1 h
    obtain ⟨h3, h4⟩ := (ptFits_iff hno).1 h'
    have e1 := ratFits_inj h1 h3
    have e2 := ratFits_inj h2 h4
    cases p; cases q
    simp only at *
    rw [e1, e2]
theorem fmtPt_no {p : Pt} {c : UInt8} (h44 : c ≠ 44) (h45 : c ≠ 45) (h47 : c ≠ 47) (hc : c.toNat < 48 ∨ 57 < c.toNat) : c ∉ fmtPt p := by
  unfold fmtPt
  rw [List.mem_append, List.mem_append, List.mem_singleton]
  rintro (h | h | h)
  · exact fmtRat_no h45 h47 hc h
  · exact h44 h
  · exact fmtRat_no h45 h47 hc h
theorem ptFits_no32 {s : List UInt8} {p : Pt} (h : ptFits s p) : (32 : UInt8) ∉ s := by
  rw [← h.2]
  exact fmtPt_no (by decide) (by decide) (by decide) (by decide)
theorem wordFits_iff {ws : List (List UInt8)} (hw : noBlank ws) {a b : List UInt8} (h : (32 : UInt8) ∉ a) {k : Nat} {p : Pt} : wordFits ws (a ++ 32 :: b) k p ↔ (k < ws.length ∧ ws.getD k [] = a) ∧ ptFits b p := by
  unfold wordFits
  constructor
  · rintro ⟨h1, t, h2, h3⟩
    obtain ⟨e1, e2⟩ := append_cut h2 h (hw.at h1)
    subst e2
    exact ⟨⟨h1, e1.symm⟩, h3⟩
  · rintro ⟨⟨h1, h2⟩, h3⟩
    exact ⟨h1, b, by rw [h2], h3⟩
/-- The two parts that strings.Cut makes. -/
theorem wordFits_cut {ws : List (List UInt8)} (hw : noBlank ws) (s : List UInt8) : ∃ a b has, Lib.cut s [32] = (a, b, has) ∧ a.length + b.length ≤ s.length ∧ ∀ k p, wordFits ws s k p ↔ (k < ws.length ∧ ws.getD k [] = a) ∧ ptFits b p := by
  rcases cut_cases 32 s with ⟨hno, hcut⟩ | ⟨a, b, hno, rfl, hcut⟩
  · refine ⟨s, [], false, hcut, by simp, fun k p => ⟨?_, fun h => absurd h.2 (ptFits_no (by simp) p)⟩⟩
    rintro ⟨_, t, h, _⟩
    exact absurd (by rw [h]; simp) hno
  · exact ⟨a, b, true, hcut, by rw [List.length_append, List.length_cons]; omega, fun k p => wordFits_iff hw hno⟩
theorem wordFits_split {ws : List (List UInt8)} (hw : noBlank ws) {s : List UInt8} {k : Nat} {p : Pt} (h : wordFits ws s k p) : split1 32 s = [ws.getD k [], fmtPt p] := by
  obtain ⟨h1, t, rfl, h3⟩ := h
  rw [split1_hit (hw.at h1), split1_none (ptFits_no32 h3), h3.2]
/-- What FormatPlacement and FormatStep make of a point. -/
def fmtWord (ws : List (List UInt8)) (k : Nat) (p : Pt) : List UInt8 := if k < ws.length ∧ p.ok then ws.getD k [] ++ 32 :: fmtPt p else []
def zeroPtD : Pt := ⟨⟨false, 0, 0⟩, ⟨false, 0, 0⟩⟩
theorem zeroPtD_no : ¬ zeroPtD.ok := by decide
/-- Where a text has two parts: which of the words fits. -/
theorem fmtWord_fits {ws : List (List UInt8)} {s : List UInt8} {k : Nat} {p : Pt} (hg : p.x.good ∧ p.y.good) : (fmtWord ws k p ≠ [] ∧ fmtWord ws k p = s) ↔ wordFits ws s k p ∧ ptFits (fmtPt p) p := by
  have hok : p.ok := ⟨hg.1.1, hg.2.1⟩
  have hf : ptFits (fmtPt p) p := ⟨hg, rfl⟩
  unfold fmtWord wordFits
  by_cases hk : k < ws.length
  · rw [if_pos ⟨hk, hok⟩]
    constructor
    · rintro ⟨_, h⟩
      exact ⟨⟨hk, _, h.symm, hf⟩, hf⟩
    · rintro ⟨⟨_, t, rfl, ht⟩, _⟩
      exact ⟨by simp, by rw [ht.2]⟩
  · rw [if_neg (fun h => hk h.1)]
    constructor
    · rintro ⟨h, _⟩
      exact absurd rfl h
    · rintro ⟨⟨h, _⟩, _⟩
      exact absurd h hk
/-- A word and a point in new memory. -/
def zeroHead : Value := .agg #[.int .i64 0, .bool false, .slice none 0 0, .slice none 0 0, .bool false, .slice none 0 0, .slice none 0 0]
def HeadPost (ws : List (List UInt8)) (off : Int) (s : List UInt8) (w : World) (e : Ending) (w' : World) : Prop :=
  Below w.heap.size w w' ∧ ((∃ (k : Nat) (p : Pt) (a b c d : Value), wordFits ws s k p ∧ e = .returned (.tuple #[.agg #[.int .i64 (k + off), .bool p.x.neg, a, b, .bool p.y.neg, c, d], .bool true]) ∧ FreshPt w' w.heap.size w'.heap.size (.agg #[.bool p.x.neg, a, b, .bool p.y.neg, c, d]) p) ∨
    ((¬ ∃ k p, wordFits ws s k p) ∧ e = .returned (.tuple #[zeroHead, .bool false])))
/-- Which word is it? -/
def IdxOf (ws : List (List UInt8)) (a : List UInt8) (z : Int) : Prop := (∃ k : Nat, k < ws.length ∧ ws.getD k [] = a ∧ z = k) ∨ ((∀ k, k < ws.length → ws.getD k [] ≠ a) ∧ z = -1)
/-- What ParsePoint hands back, in one form. -/
def PtBack (s : List UInt8) (w : World) (w' : World) (ok : Bool) (p : Pt) (v : Value) : Prop :=
  Below w.heap.size w w' ∧ (ok = true → ptFits s p ∧ FreshPt w' w.heap.size w'.heap.size v p) ∧ (ok = false → p = zeroPtD ∧ (¬ ∃ p, ptFits s p) ∧ PtV w' 0 w'.heap.size v p)
theorem zeroPt_val (w : World) : PtV w 0 w.heap.size zeroPt zeroPtD := by
  have h0 : limbs 0 = [] := limbs_zero
  refine ⟨_, _, _, _, rfl, ⟨_, _, rfl, ?_, ?_, by decide⟩, ⟨_, _, rfl, ?_, ?_, by decide⟩⟩ <;> (show Ints w 0 w.heap.size _ (limbs 0); rw [h0]; exact Ints.nil_ w 0 w.heap.size)
theorem ParsePtPost.back {s : List UInt8} {w w' : World} {e : Ending} (h : ParsePtPost s w e w') :
    ∃ ok p p1 n1 c1 p2 n2 c2 q1 m1 d1 q2 m2 d2, e = .returned (.tuple #[.agg #[.bool p.x.neg, .slice p1 n1 c1, .slice p2 n2 c2, .bool p.y.neg, .slice q1 m1 d1, .slice q2 m2 d2], .bool ok]) ∧
      PtBack s w w' ok p (.agg #[.bool p.x.neg, .slice p1 n1 c1, .slice p2 n2 c2, .bool p.y.neg, .slice q1 m1 d1, .slice q2 m2 d2]) := by
  obtain ⟨hb, ⟨p, v, hp, rfl, hf⟩ | ⟨hn, rfl⟩⟩ := h
  · have hf0 := hf
    obtain ⟨mid, a, b, c, d, rfl, h2, h3, ⟨m1, x1, x2, hx, h5, h6, o1, o2, _⟩, ⟨m2, y1, y2, hy, h7, h8, o3, o4, _⟩⟩ := hf
    injection hx with hx; injection hx with hx
    injection hx with _ hx; injection hx with e1 hx; injection hx with e2 _
    injection hy with hy; injection hy with hy
    injection hy with _ hy; injection hy with e3 hy; injection hy with e4 _
    subst e1 e2 e3 e4
    obtain ⟨_, _, rfl, _, _⟩ := o1.1.form
    obtain ⟨_, _, rfl, _, _⟩ := o2.1.form
    obtain ⟨_, _, rfl, _, _⟩ := o3.1.form
    obtain ⟨_, _, rfl, _, _⟩ := o4.1.form
    exact ⟨true, p, _, _, _, _, _, _, _, _, _, _, _, _, rfl, hb, fun _ => ⟨hp, hf0⟩, fun h => absurd h (by decide)⟩
  · exact ⟨false, zeroPtD, none, 0, 0, none, 0, 0, none, 0, 0, none, 0, 0, rfl, hb, fun h => absurd h (by decide), fun _ => ⟨rfl, hn, zeroPt_val w'⟩⟩
end Go.Proofs.YtnpfmmdekjjnjaaGreatDoor
