/- Which texts are points; fresh points in memory. -/
import Derived.Test.YtnpfmmdekjjnjaaGreatDoorParseRatS
namespace Go.Proofs.YtnpfmmdekjjnjaaGreatDoor
open Go Go.RowKit Pl

theorem fmtRat_no {r : Frac} {c : UInt8} (h45 : c ≠ 45) (h47 : c ≠ 47) (hc : c.toNat < 48 ∨ 57 < c.toNat) : c ∉ fmtRat r := by
  unfold fmtRat
  split
  · exact fmtBig_no h45 hc
  · rw [List.mem_append, List.mem_append, List.mem_singleton]
    rintro (h | h | h)
    · exact fmtBig_no h45 hc h
    · exact h47 h
    · exact dec_no hc h
theorem ratFits_inj {s : List UInt8} {r r' : Frac} (h : ratFits s r) (h' : ratFits s r') : r = r' := by
  rcases cut_cases 47 s with ⟨hno, _⟩ | ⟨a, b, hno, rfl, _⟩
  · obtain ⟨_, h1, h2⟩ := (fits_whole hno).1 h
    have := fits_inj_whole hno h2 h'
    rw [this]
    cases r
    simp only at *
    rw [h1]
  · obtain ⟨_, h1, h2, _⟩ := fits_parts hno h
    rw [fits_inj_parts hno h1 h2 h']
def ptFits (s : List UInt8) (p : Pt) : Prop := (p.x.good ∧ p.y.good) ∧ fmtPt p = s
theorem ptFits_no {s : List UInt8} (h : (44 : UInt8) ∉ s) (p : Pt) : ¬ ptFits s p := by
  rintro ⟨_, h2⟩
  apply h
  rw [← h2, fmtPt]
  simp
theorem ptFits_iff {a b : List UInt8} (h : (44 : UInt8) ∉ a) {p : Pt} : ptFits (a ++ 44 :: b) p ↔ ratFits a p.x ∧ ratFits b p.y := by
  unfold ptFits ratFits
  constructor
  · rintro ⟨⟨h1, h2⟩, h3⟩
    obtain ⟨h4, h5⟩ := append_cut h3 (fmtRat_no (by decide) (by decide) (by decide)) h
    exact ⟨⟨h1, h4⟩, ⟨h2, h5⟩⟩
  · rintro ⟨⟨h1, h2⟩, ⟨h3, h4⟩⟩
    exact ⟨⟨h1, h3⟩, by rw [fmtPt, h2, h4]; rfl⟩
/-- A point in new memory. -/
def FreshPt (w : World) (lo hi : Nat) (v : Value) (p : Pt) : Prop :=
  ∃ mid a b c d, v = .agg #[.bool p.x.neg, a, b, .bool p.y.neg, c, d] ∧ lo ≤ mid ∧ mid ≤ hi ∧ FreshRat w lo mid (.agg #[.bool p.x.neg, a, b]) p.x ∧ FreshRat w mid hi (.agg #[.bool p.y.neg, c, d]) p.y
theorem FreshPt.val {w : World} {lo hi : Nat} {v : Value} {p : Pt} (h : FreshPt w lo hi v p) : PtV w lo hi v p := by
  obtain ⟨mid, a, b, c, d, h1, h2, h3, h4, h5⟩ := h
  exact ⟨a, b, c, d, h1, h4.val.wide (Nat.le_refl _) h3, h5.val.wide h2 (Nat.le_refl _)⟩
theorem FreshPt.below {w w' : World} {lo hi : Nat} {v : Value} {p : Pt} (h : FreshPt w lo hi v p) (hb : Below w.heap.size w w') : FreshPt w' lo hi v p := by
  obtain ⟨mid, a, b, c, d, h1, h2, h3, h4, h5⟩ := h
  exact ⟨mid, a, b, c, d, h1, h2, h3, h4.below hb, h5.below hb⟩
theorem FreshPt.set {w : World} {lo hi : Nat} {v : Value} {p : Pt} (h : FreshPt w lo hi v p) {q : Addr} (hp : q.block < lo) (x : Value) : FreshPt (w.setCell q x) lo hi v p := by
  obtain ⟨mid, a, b, c, d, h1, h2, h3, h4, h5⟩ := h
  exact ⟨mid, a, b, c, d, h1, h2, h3, h4.set hp x, h5.set (by omega) x⟩
theorem FreshPt.wide {w : World} {lo lo' hi hi' : Nat} {v : Value} {p : Pt} (h : FreshPt w lo hi v p) (h1 : lo' ≤ lo) (h2 : hi ≤ hi') : FreshPt w lo' hi' v p := by
  obtain ⟨mid, a, b, c, d, e1, e2, e3, h4, h5⟩ := h
  exact ⟨mid, a, b, c, d, e1, by omega, by omega, h4.wide h1 (Nat.le_refl _), h5.wide (Nat.le_refl _) h2⟩
def zeroPt : Value := .agg #[.bool false, .slice none 0 0, .slice none 0 0, .bool false, .slice none 0 0, .slice none 0 0]
/-- What ParsePoint hands back. -/
def ParsePtPost (s : List UInt8) (w : World) (e : Ending) (w' : World) : Prop :=
  Below w.heap.size w w' ∧ ((∃ p v, ptFits s p ∧ e = .returned (.tuple #[v, .bool true]) ∧ FreshPt w' w.heap.size w'.heap.size v p) ∨
    ((¬ ∃ p, ptFits s p) ∧ e = .returned (.tuple #[zeroPt, .bool false])))
/-- What ParseRat hands back, in one form. -/
def RatBack (s : List UInt8) (w : World) (w' : World) (ok neg : Bool) (x y : Value) : Prop :=
  Below w.heap.size w w' ∧ (ok = true → ∃ r, ratFits s r ∧ r.neg = neg ∧ FreshRat w' w.heap.size w'.heap.size (.agg #[.bool neg, x, y]) r) ∧ (ok = false → ¬ ∃ r, ratFits s r)
theorem ParseRatPost.back {s : List UInt8} {w w' : World} {e : Ending} (h : ParseRatPost s w e w') :
    ∃ ok neg p1 n1 c1 p2 n2 c2, e = .returned (.tuple #[.agg #[.bool neg, .slice p1 n1 c1, .slice p2 n2 c2], .bool ok]) ∧ RatBack s w w' ok neg (.slice p1 n1 c1) (.slice p2 n2 c2) := by
  obtain ⟨hb, ⟨r, v, hr, rfl, hf⟩ | ⟨hn, rfl⟩⟩ := h
  · obtain ⟨mid, a, b, rfl, h2, h3, h4, h5, h6⟩ := hf
    obtain ⟨p1, c1, rfl, _, _⟩ := h4.1.form
    obtain ⟨p2, c2, rfl, _, _⟩ := h5.1.form
    exact ⟨true, r.neg, p1, _, c1, p2, _, c2, rfl, hb, fun _ => ⟨r, hr, rfl, mid, _, _, rfl, h2, h3, h4, h5, h6⟩, fun h => absurd h (by decide)⟩
  · exact ⟨false, false, none, 0, 0, none, 0, 0, rfl, hb, fun h => absurd h (by decide), fun _ => hn⟩
end Go.Proofs.YtnpfmmdekjjnjaaGreatDoor
