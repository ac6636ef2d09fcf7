/- Which texts are fractions; fresh fractions in memory. -/
import Derived.Test.YtnpfmmdekjjnjaaGreatDoorSplit
namespace Go.Proofs.YtnpfmmdekjjnjaaGreatDoor
open Go Go.RowKit Pl

def ratIs (s : List UInt8) (r : Frac) : Prop := r.ok ∧ fmtRat r = s
theorem sgn_no {neg : Bool} {c : UInt8} (hc : c ≠ 45) : c ∉ sgn neg := by
  cases neg <;> simp [sgn, hc]
theorem fmtBig_no {neg : Bool} {n : Nat} {c : UInt8} (h : c ≠ 45) (hc : c.toNat < 48 ∨ 57 < c.toNat) : c ∉ fmtBig neg n := by
  unfold fmtBig
  rw [List.mem_append]
  rintro (h' | h')
  · exact sgn_no h h'
  · exact dec_no hc h'
theorem fmtBig_is {neg : Bool} {n : Nat} (h : neg = true → 0 < n) (h60 : (limbs n).length ≤ 60) : bigIs (fmtBig neg n) neg n := ⟨rfl, h, h60⟩
/-- The signs of valid fractions. -/
def Frac.good (r : Frac) : Prop := r.ok ∧ (r.neg = true → 0 < r.num)
def ratFits (s : List UInt8) (r : Frac) : Prop := r.good ∧ fmtRat r = s
theorem append_cut {c : UInt8} {a b a' b' : List UInt8} (h : a ++ c :: b = a' ++ c :: b') (h1 : c ∉ a) (h2 : c ∉ a') : a = a' ∧ b = b' := by
  have e1 := cut_hit h1 b
  have e2 := cut_hit h2 b'
  rw [h] at e1
  rw [e1] at e2
  injection e2 with e3 e4
  injection e4 with e5 _
  exact ⟨e3, e5⟩
/-- No slash: an integer. -/
theorem fits_whole {s : List UInt8} (h : (47 : UInt8) ∉ s) {r : Frac} : ratFits s r ↔ r.ok ∧ r.den = 1 ∧ bigIs s r.neg r.num := by
  unfold ratFits Frac.good
  constructor
  · rintro ⟨⟨h1, h2⟩, h3⟩
    have hd : r.den = 1 := by
      refine Classical.byContradiction fun hd => h ?_
      rw [← h3, fmtRat, if_neg hd]
      simp
    refine ⟨h1, hd, ?_⟩
    rw [fmtRat, if_pos hd] at h3
    exact ⟨h3, h2, h1.small.1⟩
  · rintro ⟨h1, h2, h3, h4, _⟩
    exact ⟨⟨h1, h4⟩, by rw [fmtRat, if_pos h2]; exact h3⟩
/-- A slash: two numbers. -/
theorem fits_parts {a b : List UInt8} (h : (47 : UInt8) ∉ a) {r : Frac} (hr : ratFits (a ++ 47 :: b) r) : r.den ≠ 1 ∧ bigIs a r.neg r.num ∧ Lib.decDigits r.den = b ∧ (limbs r.den).length ≤ 60 := by
  obtain ⟨⟨h1, h2⟩, h3⟩ := hr
  have hd : r.den ≠ 1 := by
    intro hd
    rw [fmtRat, if_pos hd] at h3
    exact fmtBig_no (neg := r.neg) (n := r.num) (c := 47) (by decide) (by decide) (by rw [h3]; simp)
  rw [fmtRat, if_neg hd] at h3
  obtain ⟨h4, h5⟩ := append_cut h3 (fmtBig_no (by decide) (by decide)) h
  exact ⟨hd, ⟨h4, h2, h1.small.1⟩, h5, h1.small.2⟩
theorem fits_inj_parts {a b : List UInt8} (h : (47 : UInt8) ∉ a) {neg : Bool} {n d : Nat} (h1 : bigIs a neg n) (h2 : Lib.decDigits d = b) {r : Frac} (hr : ratFits (a ++ 47 :: b) r) : r = ⟨neg, n, d⟩ := by
  obtain ⟨_, h3, h4, _⟩ := fits_parts h hr
  obtain ⟨e1, e2⟩ := bigIs_inj h3 h1
  have e3 := decDigits_inj (h4.trans h2.symm)
  cases r
  simp only at *
  rw [e1, e2, e3]
theorem fits_inj_whole {s : List UInt8} (h : (47 : UInt8) ∉ s) {neg : Bool} {n : Nat} (h1 : bigIs s neg n) {r : Frac} (hr : ratFits s r) : r = ⟨neg, n, 1⟩ := by
  obtain ⟨_, h2, h3⟩ := (fits_whole h).1 hr
  obtain ⟨e1, e2⟩ := bigIs_inj h3 h1
  cases r
  simp only at *
  rw [e1, e2, h2]

/-- A fraction in new memory: two rows in blocks of their own, one ahead of the other. -/
def FreshRat (w : World) (lo hi : Nat) (v : Value) (r : Frac) : Prop :=
  ∃ mid a b, v = .agg #[.bool r.neg, a, b] ∧ lo ≤ mid ∧ mid ≤ hi ∧ OwnR w lo mid a (limbs r.num) ∧ OwnR w mid hi b (limbs r.den) ∧ (r.neg = true → 0 < r.num)
theorem FreshRat.val {w : World} {lo hi : Nat} {v : Value} {r : Frac} (h : FreshRat w lo hi v r) : RatV w lo hi v r := by
  obtain ⟨mid, a, b, h1, h2, h3, h4, h5, h6⟩ := h
  exact ⟨a, b, h1, h4.ints.wide (Nat.le_refl _) h3, h5.ints.wide h2 (Nat.le_refl _), h6⟩
theorem FreshRat.below {w w' : World} {lo hi : Nat} {v : Value} {r : Frac} (h : FreshRat w lo hi v r) (hb : Below w.heap.size w w') : FreshRat w' lo hi v r := by
  obtain ⟨mid, a, b, h1, h2, h3, h4, h5, h6⟩ := h
  exact ⟨mid, a, b, h1, h2, h3, h4.below hb, h5.below hb, h6⟩
theorem FreshRat.set {w : World} {lo hi : Nat} {v : Value} {r : Frac} (h : FreshRat w lo hi v r) {p : Addr} (hp : p.block < lo) (x : Value) : FreshRat (w.setCell p x) lo hi v r := by
  obtain ⟨mid, a, b, h1, h2, h3, h4, h5, h6⟩ := h
  exact ⟨mid, a, b, h1, h2, h3, h4.set hp x, h5.set (by omega) x, h6⟩
theorem FreshRat.wide {w : World} {lo lo' hi hi' : Nat} {v : Value} {r : Frac} (h : FreshRat w lo hi v r) (h1 : lo' ≤ lo) (h2 : hi ≤ hi') : FreshRat w lo' hi' v r := by
  obtain ⟨mid, a, b, e1, e2, e3, h4, h5, h6⟩ := h
  exact ⟨mid, a, b, e1, by omega, by omega, h4.wide h1 (Nat.le_refl _), h5.wide (Nat.le_refl _) h2, h6⟩
def zeroRat : Value := .agg #[.bool false, .slice none 0 0, .slice none 0 0]
/-- What ParseRat hands back. -/
def ParseRatPost (s : List UInt8) (w : World) (e : Ending) (w' : World) : Prop :=
  Below w.heap.size w w' ∧ ((∃ r v, ratFits s r ∧ e = .returned (.tuple #[v, .bool true]) ∧ FreshRat w' w.heap.size w'.heap.size v r) ∨
    ((¬ ∃ r, ratFits s r) ∧ e = .returned (.tuple #[zeroRat, .bool false])))
end Go.Proofs.YtnpfmmdekjjnjaaGreatDoor
