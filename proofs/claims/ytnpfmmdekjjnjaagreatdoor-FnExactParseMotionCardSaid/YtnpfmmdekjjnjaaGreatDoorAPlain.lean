/- Plain laws, with no program in sight: numbers by limbs, their texts, fractions of floats. -/
import Init
import Derived.Laws.FloatArith
import Derived.Lib.ItoaNum
import Derived.Lib.IndexMore
/- Plain facts on lists of limbs in base 1000000000, least significant first: their value, the canonical list of a number. No program. -/
namespace Go.Proofs.YtnpfmmdekjjnjaaGreatDoor.Pl

/-- The base of the limbs. -/
def B : Int := 1000000000
theorem B_eq : B = 1000000000 := rfl
theorem B_pos : 0 < B := by decide

/-- Powers of the base. -/
def bp : Nat → Int
  | 0 => 1
  | k + 1 => B * bp k
theorem bp_zero : bp 0 = 1 := rfl
theorem bp_succ (k : Nat) : bp (k + 1) = B * bp k := rfl
theorem bp_pos : ∀ k, 0 < bp k
  | 0 => by decide
  | k + 1 => Int.mul_pos B_pos (bp_pos k)
theorem bp_add (i j : Nat) : bp (i + j) = bp i * bp j := by
  induction i with
  | zero => simp [bp]
  | succ i ih => rw [Nat.succ_add, bp_succ, bp_succ, ih, Int.mul_assoc]
theorem bp_le {i j : Nat} (h : i ≤ j) : bp i ≤ bp j := by
  obtain ⟨d, rfl⟩ := Nat.le.dest h
  rw [bp_add]
  have h1 : 1 ≤ bp d := bp_pos d
  have := Int.mul_le_mul_of_nonneg_left h1 (Int.le_of_lt (bp_pos i))
  simpa using this
theorem bp_lt {i j : Nat} (h : bp i < bp j) : i < j := by
  rcases Nat.lt_or_ge i j with h' | h'
  · exact h'
  · have := bp_le h'; omega

/-- The value of a list of limbs. -/
def val : List Int → Int
  | [] => 0
  | x :: l => x + B * val l
theorem val_nil : val [] = 0 := rfl
theorem val_cons (x : Int) (l : List Int) : val (x :: l) = x + B * val l := rfl
theorem val_append (l m : List Int) : val (l ++ m) = val l + bp l.length * val m := by
  induction l with
  | nil => simp [val, bp]
  | cons x l ih => rw [List.cons_append, val_cons, val_cons, ih, List.length_cons, bp_succ, Int.mul_add, Int.mul_assoc]; omega
theorem val_snoc (l : List Int) (x : Int) : val (l ++ [x]) = val l + bp l.length * x := by
  rw [val_append]; simp [val]

/-- All limbs in range. -/
def okL (l : List Int) : Prop := ∀ x ∈ l, 0 ≤ x ∧ x < B
theorem okL_nil : okL [] := fun _ h => by cases h
theorem okL_cons {x : Int} {l : List Int} : okL (x :: l) ↔ (0 ≤ x ∧ x < B) ∧ okL l := by simp [okL]
theorem okL_append {l m : List Int} : okL (l ++ m) ↔ okL l ∧ okL m := by
  unfold okL
  constructor
  · intro h; exact ⟨fun x hx => h x (List.mem_append.2 (.inl hx)), fun x hx => h x (List.mem_append.2 (.inr hx))⟩
  · rintro ⟨h1, h2⟩ x hx
    rcases List.mem_append.1 hx with h | h
    · exact h1 x h
    · exact h2 x h
theorem okL_snoc {l : List Int} {x : Int} (h : okL l) (h0 : 0 ≤ x) (h1 : x < B) : okL (l ++ [x]) := okL_append.2 ⟨h, by simp [okL, h0, h1]⟩
theorem okL_drop {l : List Int} (h : okL l) (k : Nat) : okL (l.drop k) := fun x hx => h x (List.mem_of_mem_drop hx)
theorem okL_take {l : List Int} (h : okL l) (k : Nat) : okL (l.take k) := fun x hx => h x (List.mem_of_mem_take hx)

theorem val_nonneg {l : List Int} (h : okL l) : 0 ≤ val l := by
  induction l with
  | nil => simp [val]
  | cons x l ih =>
    have h' := okL_cons.1 h
    have := Int.mul_nonneg (Int.le_of_lt B_pos) (ih h'.2)
    rw [val_cons]; omega
theorem val_lt {l : List Int} (h : okL l) : val l < bp l.length := by
  induction l with
  | nil => simp [val, bp]
  | cons x l ih =>
    have h' := okL_cons.1 h
    have h2 : val l + 1 ≤ bp l.length := ih h'.2
    have := Int.mul_le_mul_of_nonneg_left h2 (Int.le_of_lt B_pos)
    rw [Int.mul_add] at this
    rw [val_cons, List.length_cons, bp_succ]; omega

/-- The i-th limb, 0 behind the end. -/
def nth (l : List Int) (i : Nat) : Int := l.getD i 0
theorem nth_ge {l : List Int} {i : Nat} (h : l.length ≤ i) : nth l i = 0 := by simp [nth, List.getD, List.getElem?_eq_none h]
theorem nth_lt {l : List Int} {i : Nat} (h : i < l.length) : nth l i = l[i] := by simp [nth, List.getD, List.getElem?_eq_getElem h]
theorem nth_ok {l : List Int} (h : okL l) (i : Nat) : 0 ≤ nth l i ∧ nth l i < B := by
  rcases Nat.lt_or_ge i l.length with hi | hi
  · rw [nth_lt hi]; exact h _ (List.getElem_mem hi)
  · rw [nth_ge hi]; exact ⟨Int.le_refl 0, B_pos⟩
theorem nth_append_left {l m : List Int} {i : Nat} (h : i < l.length) : nth (l ++ m) i = nth l i := by simp [nth, List.getD, List.getElem?_append_left h]
theorem nth_snoc_at (l : List Int) (x : Int) : nth (l ++ [x]) l.length = x := by simp [nth, List.getD]
theorem nth_drop (l : List Int) (k i : Nat) : nth (l.drop k) i = nth l (k + i) := by simp [nth, List.getD, List.getElem?_drop]
theorem drop_nth {l : List Int} {i : Nat} (h : i < l.length) : l.drop i = nth l i :: l.drop (i + 1) := by
  rw [nth_lt h]; exact List.drop_eq_getElem_cons h
theorem take_nth {l : List Int} {i : Nat} (h : i < l.length) : l.take (i + 1) = l.take i ++ [nth l i] := by
  rw [nth_lt h]; exact (List.take_append_getElem h).symm
theorem val_drop_nth {l : List Int} {i : Nat} (h : i < l.length) : val (l.drop i) = nth l i + B * val (l.drop (i + 1)) := by
  rw [drop_nth h, val_cons]
theorem val_drop_any (l : List Int) (i : Nat) : val (l.drop i) = nth l i + B * val (l.drop (i + 1)) := by
  rcases Nat.lt_or_ge i l.length with h | h
  · exact val_drop_nth h
  · rw [List.drop_eq_nil_of_le h, List.drop_eq_nil_of_le (by omega), nth_ge h]; simp [val]
theorem val_take_drop (l : List Int) (i : Nat) : val l = val (l.take i) + bp (l.take i).length * val (l.drop i) := by
  rw [← val_append, List.take_append_drop]

/-- The canonical list of a number. -/
def limbs (n : Nat) : List Int := if h : n = 0 then [] else ((n % 1000000000 : Nat) : Int) :: limbs (n / 1000000000)
termination_by n
decreasing_by omega
theorem limbs_zero : limbs 0 = [] := by rw [limbs]; simp
theorem limbs_pos {n : Nat} (h : 0 < n) : limbs n = ((n % 1000000000 : Nat) : Int) :: limbs (n / 1000000000) := by rw [limbs]; simp [Nat.pos_iff_ne_zero.1 h]
theorem okL_limbs (n : Nat) : okL (limbs n) := by
  induction n using Nat.strongRecOn with
  | _ n ih =>
    rcases Nat.eq_zero_or_pos n with rfl | h
    · rw [limbs_zero]; exact okL_nil
    · rw [limbs_pos h]; refine okL_cons.2 ⟨⟨by omega, by simp only [B]; omega⟩, ih _ (by omega)⟩
theorem val_limbs (n : Nat) : val (limbs n) = n := by
  induction n using Nat.strongRecOn with
  | _ n ih =>
    rcases Nat.eq_zero_or_pos n with rfl | h
    · rw [limbs_zero]; rfl
    · rw [limbs_pos h, val_cons, ih _ (by omega)]; simp only [B]; omega
theorem limbs_nil_iff {n : Nat} : limbs n = [] ↔ n = 0 := by
  constructor
  · intro h; have := val_limbs n; rw [h] at this; simp [val] at this; omega
  · rintro rfl; exact limbs_zero
theorem limbs_length_pos {n : Nat} : 0 < (limbs n).length ↔ 0 < n := by
  rw [List.length_pos_iff]
  constructor
  · intro h; rcases Nat.eq_zero_or_pos n with rfl | h'
    · exact absurd limbs_zero h
    · exact h'
  · intro h e; have := limbs_nil_iff.1 e; omega
/-- The last limb of a canonical list is not 0. -/
theorem limbs_last {n : Nat} (h : 0 < n) : nth (limbs n) ((limbs n).length - 1) ≠ 0 := by
  induction n using Nat.strongRecOn with
  | _ n ih =>
    rcases Nat.eq_zero_or_pos (n / 1000000000) with h0 | h0
    · rw [limbs_pos h, h0, limbs_zero]; simp [nth]; omega
    · have := ih _ (by omega) h0
      rw [limbs_pos h]
      have hl : 0 < (limbs (n / 1000000000)).length := limbs_length_pos.2 h0
      intro e
      apply this
      rw [List.length_cons] at e
      have e2 : (limbs (n / 1000000000)).length + 1 - 1 = ((limbs (n / 1000000000)).length - 1) + 1 := by omega
      rw [e2] at e
      simpa [nth] using e

/-- A canonical list: limbs in range, the last one not 0. -/
def canon (l : List Int) : Prop := okL l ∧ (0 < l.length → nth l (l.length - 1) ≠ 0)
theorem canon_limbs (n : Nat) : canon (limbs n) := ⟨okL_limbs n, fun h => limbs_last (limbs_length_pos.1 h)⟩
theorem canon_tail {x : Int} {l : List Int} (h : canon (x :: l)) : canon l := by
  refine ⟨(okL_cons.1 h.1).2, fun hl => ?_⟩
  have := h.2 (by simp)
  intro e
  apply this
  rw [List.length_cons]
  have e2 : l.length + 1 - 1 = (l.length - 1) + 1 := by omega
  rw [e2]
  simpa [nth] using e
theorem canon_val_pos {l : List Int} (h : canon l) (hl : 0 < l.length) : 0 < val l := by
  induction l with
  | nil => simp at hl
  | cons x l ih =>
    have h1 := okL_cons.1 h.1
    rw [val_cons]
    rcases Nat.eq_zero_or_pos l.length with h0 | h0
    · have : l = [] := List.eq_nil_of_length_eq_zero h0
      subst this
      have := h.2 (by simp)
      simp [nth] at this
      simp [val]; omega
    · have h2 : 0 < val l := ih (canon_tail h) h0
      have := Int.mul_pos B_pos h2
      omega
theorem canon_eq {l : List Int} (h : canon l) : l = limbs (val l).toNat := by
  induction l with
  | nil => simp [val, limbs_zero]
  | cons x l ih =>
    have h1 := okL_cons.1 h.1
    have hp := canon_val_pos h (by simp)
    have hv := val_nonneg h1.2
    have e := ih (canon_tail h)
    rw [val_cons] at hp ⊢
    have hx := h1.1
    simp only [B] at hp hx ⊢
    rw [limbs_pos (by omega)]
    have e1 : ((x + 1000000000 * val l).toNat % 1000000000 : Nat) = x.toNat := by omega
    have e2 : (x + 1000000000 * val l).toNat / 1000000000 = (val l).toNat := by omega
    rw [e1, e2, ← e]
    congr 1
    omega
theorem eq_limbs {l : List Int} {n : Nat} (h : canon l) (hv : val l = n) : l = limbs n := by
  have := canon_eq h
  rw [hv] at this
  simpa using this
theorem limbs_inj {m n : Nat} (h : limbs m = limbs n) : m = n := by
  have := val_limbs m
  rw [h, val_limbs] at this
  omega
theorem limbs_length_le {n k : Nat} : (limbs n).length ≤ k ↔ (n : Int) < bp k := by
  constructor
  · intro h
    have := val_lt (okL_limbs n)
    rw [val_limbs] at this
    have := bp_le h
    omega
  · intro h
    rcases Nat.lt_or_ge k (limbs n).length with hl | hl
    · exfalso
      have hc := canon_limbs n
      have hne := hc.2 (by omega)
      have hv := val_limbs n
      have hs := val_take_drop (limbs n) ((limbs n).length - 1)
      rw [drop_nth (by omega), val_cons, List.drop_eq_nil_of_le (by omega), val_nil, hv] at hs
      have ht := val_nonneg (okL_take hc.1 ((limbs n).length - 1))
      have hk : bp k ≤ bp (List.take ((limbs n).length - 1) (limbs n)).length := bp_le (by simp; omega)
      have ho := nth_ok hc.1 ((limbs n).length - 1)
      have hx : 1 ≤ nth (limbs n) ((limbs n).length - 1) := by omega
      have := Int.mul_le_mul_of_nonneg_left hx (Int.le_of_lt (bp_pos (List.take ((limbs n).length - 1) (limbs n)).length))
      have e : nth (limbs n) ((limbs n).length - 1) + B * 0 = nth (limbs n) ((limbs n).length - 1) := by simp
      rw [e] at hs
      omega
    · exact hl

/-- The same list without the zero limbs at its end. -/
def trimL : List Int → List Int
  | [] => []
  | x :: l => match trimL l with
    | [] => if x = 0 then [] else [x]
    | y :: m => x :: y :: m
theorem trimL_val (l : List Int) : val (trimL l) = val l := by
  induction l with
  | nil => rfl
  | cons x l ih =>
    simp only [trimL]
    split
    · rename_i h
      rw [h, val_nil] at ih
      rw [val_cons, ← ih]
      split
      · rename_i h0; subst h0; simp [val]
      · simp [val]
    · rename_i y m h
      rw [h] at ih
      rw [val_cons x, val_cons x, ih]
theorem trimL_ok {l : List Int} (h : okL l) : okL (trimL l) := by
  induction l with
  | nil => exact okL_nil
  | cons x l ih =>
    have h' := okL_cons.1 h
    have i := ih h'.2
    simp only [trimL]
    split
    · split
      · exact okL_nil
      · exact okL_cons.2 ⟨h'.1, okL_nil⟩
    · rename_i y m e
      rw [e] at i
      exact okL_cons.2 ⟨h'.1, i⟩
theorem trimL_last (l : List Int) : 0 < (trimL l).length → nth (trimL l) ((trimL l).length - 1) ≠ 0 := by
  induction l with
  | nil => intro h; simp [trimL] at h
  | cons x l ih =>
    simp only [trimL]
    split
    · split
      · intro h; simp at h
      · rename_i h0; intro _; simpa [nth] using h0
    · rename_i y m e
      rw [e] at ih
      intro _
      have := ih (by simp)
      simpa [nth] using this
theorem trimL_canon {l : List Int} (h : okL l) : canon (trimL l) := ⟨trimL_ok h, trimL_last l⟩
theorem trimL_eq {l : List Int} {n : Nat} (h : okL l) (hv : val l = n) : trimL l = limbs n := eq_limbs (trimL_canon h) (by rw [trimL_val, hv])
theorem trimL_of_last {l : List Int} (h : l = [] ∨ nth l (l.length - 1) ≠ 0) : trimL l = l := by
  induction l with
  | nil => rfl
  | cons x l ih =>
    have hl : nth (x :: l) ((x :: l).length - 1) ≠ 0 := by simpa using h
    simp only [trimL]
    cases l with
    | nil => simp [nth] at hl; simp [trimL, hl]
    | cons y m =>
      have := ih (.inr (by simpa [nth] using hl))
      rw [this]
theorem trimL_snoc_zero (l : List Int) : trimL (l ++ [0]) = trimL l := by
  induction l with
  | nil => simp [trimL]
  | cons x l ih => simp only [List.cons_append, trimL, ih]
/-- What the loop of 'trimmed' does: as long as the last limb is 0 it is dropped. -/
theorem trimL_take_of_zero {l : List Int} {n : Nat} (hn : 0 < n) (hl : n ≤ l.length) (h : nth l (n - 1) = 0) : trimL (l.take n) = trimL (l.take (n - 1)) := by
  have e : n = (n - 1) + 1 := by omega
  rw [e, take_nth (by omega), h, trimL_snoc_zero]
  rfl
theorem trimL_take_of_ne {l : List Int} {n : Nat} (hn : 0 < n) (hl : n ≤ l.length) (h : nth l (n - 1) ≠ 0) : trimL (l.take n) = l.take n := by
  refine trimL_of_last (.inr ?_)
  have : (l.take n).length = n := by simp; omega
  rw [this]
  intro e
  apply h
  rw [← e]
  simp [nth, List.getD, show n - 1 < n from by omega]

end Go.Proofs.YtnpfmmdekjjnjaaGreatDoor.Pl

/- Plain: comparing two canonical lists of limbs. -/
namespace Go.Proofs.YtnpfmmdekjjnjaaGreatDoor.Pl

/-- -1, 0 or 1 as a number is less than, equal to or greater than another. -/
def cmpI (a b : Int) : Int := if a < b then -1 else if a = b then 0 else 1
theorem cmpI_lt {a b : Int} (h : a < b) : cmpI a b = -1 := by simp [cmpI, h]
theorem cmpI_eq (a : Int) : cmpI a a = 0 := by simp [cmpI]
theorem cmpI_gt {a b : Int} (h : b < a) : cmpI a b = 1 := by
  unfold cmpI
  rw [if_neg (by omega), if_neg (by omega)]

theorem val_lt_of_len {a b : List Int} (ha : canon a) (hb : canon b) (h : a.length < b.length) : val a < val b := by
  have h1 := val_lt ha.1
  have h2 : bp a.length ≤ bp (b.length - 1) := bp_le (by omega)
  have h3 := hb.2 (by omega)
  have h4 := val_take_drop b (b.length - 1)
  rw [drop_nth (by omega), val_cons, List.drop_eq_nil_of_le (by omega), val_nil] at h4
  have h5 := val_nonneg (okL_take hb.1 (b.length - 1))
  have h6 : (List.take (b.length - 1) b).length = b.length - 1 := by simp
  rw [h6] at h4
  have h7 := nth_ok hb.1 (b.length - 1)
  have h8 : 1 ≤ nth b (b.length - 1) := by omega
  have := Int.mul_le_mul_of_nonneg_left h8 (Int.le_of_lt (bp_pos (b.length - 1)))
  have e : nth b (b.length - 1) + B * 0 = nth b (b.length - 1) := by simp
  rw [e] at h4
  omega
theorem val_lt_of_top {a b : List Int} {k : Nat} (ha : okL a) (hb : okL b) (hl : a.length = b.length) (hk : k < a.length) (hd : a.drop (k + 1) = b.drop (k + 1)) (h : nth a k < nth b k) : val a < val b := by
  have h1 := val_take_drop a k
  have h2 := val_take_drop b k
  rw [val_drop_nth hk] at h1
  rw [val_drop_nth (by omega), ← hd] at h2
  have e1 : (a.take k).length = k := by simp; omega
  have e2 : (b.take k).length = k := by simp; omega
  rw [e1] at h1
  rw [e2] at h2
  have h3 := val_lt (okL_take ha k)
  have h4 := val_nonneg (okL_take hb k)
  rw [e1] at h3
  have h5 : nth a k + 1 ≤ nth b k := h
  have := Int.mul_le_mul_of_nonneg_left h5 (Int.le_of_lt (bp_pos k))
  rw [Int.mul_add] at h1 h2 this
  omega
/-- The outcome where the lengths differ. -/
theorem cmp_len {a b : List Int} (ha : canon a) (hb : canon b) (h : a.length ≠ b.length) : cmpI (a.length : Int) b.length = cmpI (val a) (val b) := by
  rcases Nat.lt_or_gt_of_ne h with h | h
  · rw [cmpI_lt (by omega), cmpI_lt (val_lt_of_len ha hb h)]
  · rw [cmpI_gt (by omega), cmpI_gt (val_lt_of_len hb ha h)]
/-- The outcome at the first limb from the top that differs. -/
theorem cmp_top {a b : List Int} {k : Nat} (ha : okL a) (hb : okL b) (hl : a.length = b.length) (hk : k < a.length) (hd : a.drop (k + 1) = b.drop (k + 1)) (h : nth a k ≠ nth b k) :
    cmpI (nth a k) (nth b k) = cmpI (val a) (val b) := by
  rcases Int.lt_or_gt_of_ne h with h | h
  · rw [cmpI_lt h, cmpI_lt (val_lt_of_top ha hb hl hk hd h)]
  · rw [cmpI_gt h, cmpI_gt (val_lt_of_top hb ha hl.symm (by omega) hd.symm h)]
theorem drop_same {a b : List Int} {k : Nat} (hl : a.length = b.length) (hk : k < a.length) (hd : a.drop (k + 1) = b.drop (k + 1)) (h : nth a k = nth b k) : a.drop k = b.drop k := by
  rw [drop_nth hk, drop_nth (l := b) (by omega), h, hd]
end Go.Proofs.YtnpfmmdekjjnjaaGreatDoor.Pl

/- Plain: what the loops of subtraction, addition, multiplication and short division keep. -/
namespace Go.Proofs.YtnpfmmdekjjnjaaGreatDoor.Pl

theorem val_take_succ (l : List Int) (k : Nat) : val (l.take (k + 1)) = val (l.take k) + bp k * nth l k := by
  rcases Nat.lt_or_ge k l.length with h | h
  · rw [take_nth h, val_snoc]
    have : (l.take k).length = k := by simp; omega
    rw [this]
  · rw [List.take_of_length_le (by omega), List.take_of_length_le h, nth_ge h]; simp

/-! Subtraction -/
def SubInv (a b out : List Int) (bor : Int) : Prop := okL out ∧ (bor = 0 ∨ bor = 1) ∧ val out - bp out.length * bor = val (a.take out.length) - val (b.take out.length)
theorem sub_start (a b : List Int) : SubInv a b [] 0 := ⟨okL_nil, .inl rfl, by simp [val]⟩
theorem sub_step_neg {a b out : List Int} {bor n : Int} {k : Nat} (ha : okL a) (hb : okL b) (h : SubInv a b out bor) (hk : k = out.length) (hn : n = nth a k - nth b k - bor) (h0 : n < 0) : SubInv a b (out ++ [n + 1000000000]) 1 := by
  subst hk
  obtain ⟨h1, h2, h3⟩ := h
  have oa := nth_ok ha out.length
  have ob := nth_ok hb out.length
  simp only [B] at oa ob
  refine ⟨okL_snoc h1 (by omega) (by simp only [B]; omega), .inr rfl, ?_⟩
  rw [val_snoc, List.length_append, List.length_singleton, val_take_succ, val_take_succ, bp_succ]
  subst hn
  have e : (nth a out.length - nth b out.length - bor + 1000000000) = (nth a out.length - nth b out.length - bor + B) := rfl
  rw [e, Int.mul_add, Int.mul_sub, Int.mul_sub, Int.mul_comm B]
  omega
theorem sub_step_pos {a b out : List Int} {bor n : Int} {k : Nat} (ha : okL a) (hb : okL b) (h : SubInv a b out bor) (hk : k = out.length) (hn : n = nth a k - nth b k - bor) (h0 : 0 ≤ n) : SubInv a b (out ++ [n]) 0 := by
  subst hk
  obtain ⟨h1, h2, h3⟩ := h
  have oa := nth_ok ha out.length
  have ob := nth_ok hb out.length
  simp only [B] at oa ob
  refine ⟨okL_snoc h1 h0 (by simp only [B]; omega), .inl rfl, ?_⟩
  rw [val_snoc, List.length_append, List.length_singleton, val_take_succ, val_take_succ]
  subst hn
  rw [Int.mul_sub, Int.mul_sub]
  omega
theorem sub_end {m n : Nat} {out : List Int} {bor : Int} (hmn : n ≤ m) (h : SubInv (limbs m) (limbs n) out bor) (hl : out.length = (limbs m).length) : trimL out = limbs (m - n) := by
  obtain ⟨h1, h2, h3⟩ := h
  have hln : (limbs n).length ≤ (limbs m).length := by
    rw [limbs_length_le]
    have := val_lt (okL_limbs m)
    rw [val_limbs] at this
    omega
  rw [List.take_of_length_le (by omega), List.take_of_length_le (by omega), val_limbs, val_limbs] at h3
  have hlt := val_lt h1
  have hb : bor = 0 := by
    rcases h2 with h2 | h2
    · exact h2
    · subst h2; omega
  subst hb
  exact trimL_eq h1 (by omega)

/-! Addition: what is written and what is left are the sum's list. -/
def rest (a b : List Int) (k : Nat) (carry : Nat) : Nat := (val (a.drop k)).toNat + (val (b.drop k)).toNat + carry
theorem add_start (m n : Nat) : ([] : List Int) ++ limbs (rest (limbs m) (limbs n) 0 0) = limbs (m + n) := by
  simp [rest, val_limbs]
theorem add_step {a b out : List Int} {k carry : Nat} {s : Int} {N : Nat} (ha : okL a) (hb : okL b) (h : out ++ limbs (rest a b k carry) = limbs N) (hs : s = nth a k + nth b k + carry) (hp : 0 < rest a b k carry) :
    (out ++ [s % 1000000000]) ++ limbs (rest a b (k + 1) (s / 1000000000).toNat) = limbs N := by
  rw [← h, limbs_pos hp, List.append_assoc]
  congr 1
  have e1 := val_drop_any a k
  have e2 := val_drop_any b k
  have oa := nth_ok ha k
  have ob := nth_ok hb k
  have p1 := val_nonneg (okL_drop ha (k + 1))
  have p2 := val_nonneg (okL_drop hb (k + 1))
  simp only [B] at e1 e2 oa ob
  unfold rest
  rw [e1, e2]
  simp only [List.singleton_append]
  congr 1
  · omega
  · congr 1
    omega
theorem add_pos_left {a b : List Int} {k carry : Nat} (ha : canon a) (h : k < a.length) : 0 < rest a b k carry := by
  have : 0 < val (a.drop k) := by
    refine canon_val_pos ⟨okL_drop ha.1 k, fun _ => ?_⟩ (by simp; omega)
    rw [nth_drop, List.length_drop]
    have e : k + (a.length - k - 1) = a.length - 1 := by omega
    rw [e]
    exact ha.2 (by omega)
  unfold rest
  omega
theorem rest_comm (a b : List Int) (k carry : Nat) : rest a b k carry = rest b a k carry := by unfold rest; omega
theorem add_end {a b out : List Int} {k N : Nat} (h : out ++ limbs (rest a b k 0) = limbs N) (ha : a.length ≤ k) (hb : b.length ≤ k) : out = limbs N := by
  rw [← h, rest, List.drop_eq_nil_of_le ha, List.drop_eq_nil_of_le hb]
  simp [val, limbs_zero]
theorem add_len {a b out : List Int} {k carry N : Nat} (h : out ++ limbs (rest a b k carry) = limbs N) : out.length ≤ (limbs N).length := by
  rw [← h, List.length_append]; omega

theorem add_len_lt {a b out : List Int} {k carry N : Nat} (h : out ++ limbs (rest a b k carry) = limbs N) (hp : 0 < rest a b k carry) : out.length < (limbs N).length := by
  rw [← h, List.length_append]
  have := limbs_length_pos.2 hp
  omega

/-! Short division, from the top. -/
def DivInv (a : List Int) (n : Int) (out : List Int) (i : Nat) (r : Int) : Prop := okL out ∧ 0 ≤ r ∧ r < n ∧ val (a.drop i) = n * val (out.drop i) + r
theorem div_start {a out : List Int} {n : Int} (hn : 0 < n) (ho : okL out) (hl : out.length = a.length) : DivInv a n out a.length 0 :=
  ⟨ho, Int.le_refl 0, hn, by rw [List.drop_eq_nil_of_le (Nat.le_refl _), List.drop_eq_nil_of_le (by omega)]; simp [val]⟩
theorem drop_set_self {out : List Int} {i : Nat} {q : Int} (h : i < out.length) : (out.set i q).drop i = q :: out.drop (i + 1) := by
  rw [List.drop_eq_getElem_cons (by simpa using h)]
  simp [List.drop_set]
theorem div_step {a out : List Int} {n r q r' : Int} {i : Nat} (ha : okL a) (hn : 0 < n) (hn2 : n < 1000000000) (h : DivInv a n out (i + 1) r) (hi : i < a.length) (hl : out.length = a.length)
    (hq : q = (r * 1000000000 + nth a i) / n) (hr : r' = (r * 1000000000 + nth a i) % n) : DivInv a n (out.set i q) i r' := by
  obtain ⟨h1, h2, h3, h4⟩ := h
  have oa := nth_ok ha i
  simp only [B] at oa
  have hnn : (r * 1000000000 + nth a i) ≥ 0 := by omega
  have hq0 : 0 ≤ q := by rw [hq]; exact Int.ediv_nonneg hnn (by omega)
  have hq1 : q < 1000000000 := by
    rw [hq]
    refine Int.ediv_lt_of_lt_mul hn ?_
    have : (r + 1) * 1000000000 ≤ n * 1000000000 := Int.mul_le_mul_of_nonneg_right h3 (by omega)
    rw [Int.mul_comm]
    omega
  refine ⟨?_, by rw [hr]; exact Int.emod_nonneg _ (by omega), by rw [hr]; exact Int.emod_lt_of_pos _ hn, ?_⟩
  · intro x hx
    rcases List.mem_or_eq_of_mem_set hx with hx | hx
    · exact h1 x hx
    · rw [hx]; exact ⟨hq0, by simp only [B]; omega⟩
  · rw [drop_set_self (by omega), val_cons, val_drop_nth hi, h4]
    have e := Int.mul_ediv_add_emod (r * 1000000000 + nth a i) n
    rw [← hq, ← hr] at e
    simp only [B]
    rw [Int.mul_add, Int.mul_add n, ← Int.mul_assoc, ← Int.mul_assoc n, Int.mul_comm n 1000000000]
    omega
theorem div_end {m n : Nat} {out : List Int} {r : Int} (_hn : 0 < n) (h : DivInv (limbs m) n out 0 r) : trimL out = limbs (m / n) ∧ r = ((m % n : Nat) : Int) := by
  obtain ⟨h1, h2, h3, h4⟩ := h
  rw [List.drop_zero, List.drop_zero, val_limbs] at h4
  have hv := val_nonneg h1
  obtain ⟨q, hq⟩ := Int.eq_ofNat_of_zero_le hv
  obtain ⟨s, rfl⟩ := Int.eq_ofNat_of_zero_le h2
  rw [hq] at h4
  have hs : s < n := by exact_mod_cast h3
  have h5 : m = n * q + s := by exact_mod_cast h4
  refine ⟨?_, ?_⟩
  · rw [trimL_eq h1 hq, h5, Nat.mul_add_div (by omega), Nat.div_eq_of_lt hs]; rfl
  · rw [h5, Nat.mul_add_mod, Nat.mod_eq_of_lt hs]
/-- After n rows of zeros. -/
theorem okL_replicate (n : Nat) : okL (List.replicate n 0) := fun x hx => by
  rw [List.eq_of_mem_replicate hx]; exact ⟨Int.le_refl 0, B_pos⟩
theorem val_replicate (n : Nat) : val (List.replicate n 0) = 0 := by
  induction n with
  | zero => rfl
  | succ n ih => rw [List.replicate_succ, val_cons, ih]; simp

end Go.Proofs.YtnpfmmdekjjnjaaGreatDoor.Pl

/- Plain: what the loops of multiplication keep. -/
namespace Go.Proofs.YtnpfmmdekjjnjaaGreatDoor.Pl

theorem val_set (l : List Int) (j : Nat) (y : Int) (h : j < l.length) : val (l.set j y) = val l + bp j * (y - nth l j) := by
  induction l generalizing j with
  | nil => simp at h
  | cons x l ih =>
    cases j with
    | zero => rw [List.set_cons_zero, val_cons, val_cons]; simp [bp, nth]; omega
    | succ j =>
      rw [List.set_cons_succ, val_cons, val_cons, ih j (by simpa using h), bp_succ]
      have e : nth (x :: l) (j + 1) = nth l j := by simp [nth]
      rw [e, Int.mul_add, Int.mul_assoc]
      omega
theorem okL_set {l : List Int} {j : Nat} {y : Int} (h : okL l) (h0 : 0 ≤ y) (h1 : y < B) : okL (l.set j y) := by
  intro x hx
  rcases List.mem_or_eq_of_mem_set hx with hx | hx
  · exact h x hx
  · rw [hx]; exact ⟨h0, h1⟩
theorem nth_set_self {l : List Int} {j : Nat} {y : Int} (h : j < l.length) : nth (l.set j y) j = y := by simp [nth, List.getD, h]
theorem nth_set_ne {l : List Int} {i j : Nat} {y : Int} (h : j ≠ i) : nth (l.set j y) i = nth l i := by simp [nth, List.getD, h]

/-- In the row of the i-th limb x of a, behind k limbs of b. -/
def MulInv (a b out : List Int) (i k : Nat) (x c : Int) : Prop :=
  okL out ∧ out.length = a.length + b.length ∧ 0 ≤ c ∧ c < B ∧ val out = val (a.take i) * val b + bp i * (x * val (b.take k)) - bp (i + k) * c
theorem mul_row {a b out : List Int} {i : Nat} (x : Int) (ho : okL out) (hl : out.length = a.length + b.length) (hv : val out = val (a.take i) * val b) : MulInv a b out i 0 x 0 :=
  ⟨ho, hl, Int.le_refl 0, B_pos, by rw [hv]; simp [val]⟩
theorem mul_bound {a b out : List Int} {i k : Nat} {c : Int} (ha : okL a) (hb : okL b) (hi : i < a.length) (h : MulInv a b out i k (nth a i) c) (hk : b.length ≤ k) (hc : 0 < c) : k ≤ b.length := by
  obtain ⟨h1, h2, h3, h4, h5⟩ := h
  have hv := val_nonneg h1
  rw [List.take_of_length_le hk] at h5
  have e1 : val (a.take i) * val b + bp i * (nth a i * val b) = val (a.take (i + 1)) * val b := by
    rw [val_take_succ, Int.add_mul, Int.mul_assoc]
  rw [e1] at h5
  have ht := val_lt (okL_take ha (i + 1))
  have htl : (a.take (i + 1)).length = i + 1 := by simp; omega
  rw [htl] at ht
  have hbv := val_lt hb
  have hb0 := val_nonneg hb
  have ht0 := val_nonneg (okL_take ha (i + 1))
  have h6 : val (a.take (i + 1)) * val b ≤ bp (i + 1) * val b := Int.mul_le_mul_of_nonneg_right (Int.le_of_lt ht) hb0
  have h7 : bp (i + 1) * val b < bp (i + 1) * bp b.length := Int.mul_lt_mul_of_pos_left hbv (bp_pos _)
  rw [← bp_add] at h7
  have h8 : bp (i + k) * 1 ≤ bp (i + k) * c := Int.mul_le_mul_of_nonneg_left hc (Int.le_of_lt (bp_pos _))
  have := bp_lt (show bp (i + k) < bp (i + 1 + b.length) by omega)
  omega
theorem mul_sum {a b out : List Int} {i k : Nat} {x c : Int} (hb : okL b) (h : MulInv a b out i k x c) (hx0 : 0 ≤ x) (hx1 : x < B) :
    0 ≤ x * nth b k ∧ x * nth b k ≤ 999999998000000001 ∧ 0 ≤ nth out (i + k) ∧ nth out (i + k) < 1000000000 ∧ 0 ≤ c ∧ c < 1000000000 := by
  have ob := nth_ok hb k
  have oo := nth_ok h.1 (i + k)
  have hc := h.2.2.1
  have hc' := h.2.2.2.1
  simp only [B] at *
  refine ⟨Int.mul_nonneg hx0 ob.1, ?_, oo.1, oo.2, hc, hc'⟩
  have h1 : x * nth b k ≤ 999999999 * nth b k := Int.mul_le_mul_of_nonneg_right (by omega) ob.1
  omega
theorem mul_step {a b out : List Int} {i k : Nat} {x c s : Int} (hb : okL b) (h : MulInv a b out i k x c) (hx0 : 0 ≤ x) (hx1 : x < B) (hik : i + k < out.length) (hs : s = nth out (i + k) + x * nth b k + c) :
    MulInv a b (out.set (i + k) (s % 1000000000)) i (k + 1) x (s / 1000000000) := by
  have hm := mul_sum hb h hx0 hx1
  obtain ⟨h1, h2, h3, h4, h5⟩ := h
  have hs0 : 0 ≤ s := by omega
  have e : s = 1000000000 * (s / 1000000000) + s % 1000000000 := by omega
  refine ⟨okL_set h1 (by omega) (by simp only [B]; omega), by rw [List.length_set, h2], by omega, by simp only [B]; omega, ?_⟩
  rw [val_set _ _ _ hik, h5, val_take_succ, show i + (k + 1) = (i + k) + 1 from rfl, bp_succ (i + k), bp_add]
  generalize s / 1000000000 = q at *
  generalize s % 1000000000 = r at *
  have hr : r = nth out (i + k) + x * nth b k + c - B * q := by simp only [B]; omega
  rw [hr]
  generalize nth out (i + k) = z
  generalize nth b k = y
  generalize val (b.take k) = vb
  generalize val (a.take i) * val b = t
  generalize bp i = pi
  generalize bp k = pk
  have e1 : pi * (x * (vb + pk * y)) = pi * (x * vb) + pi * pk * (x * y) := by
    rw [Int.mul_add, Int.mul_add, Int.mul_assoc pi pk, ← Int.mul_assoc x pk y, Int.mul_comm x pk, Int.mul_assoc pk x y]
  have e2 : pi * pk * (z + x * y + c - B * q - z) = pi * pk * (x * y) + pi * pk * c - B * (pi * pk) * q := by
    have : z + x * y + c - B * q - z = x * y + c - B * q := by omega
    rw [this, Int.mul_sub, Int.mul_add, ← Int.mul_assoc (pi * pk) B q, Int.mul_comm (pi * pk) B]
  rw [e1, e2]
  omega
theorem mul_row_end {a b out : List Int} {i k : Nat} (h : MulInv a b out i k (nth a i) 0) (hk : b.length ≤ k) : okL out ∧ out.length = a.length + b.length ∧ val out = val (a.take (i + 1)) * val b := by
  obtain ⟨h1, h2, h3, h4, h5⟩ := h
  refine ⟨h1, h2, ?_⟩
  rw [List.take_of_length_le hk] at h5
  rw [h5, val_take_succ, Int.add_mul, Int.mul_assoc]
  simp
theorem mul_end {m n : Nat} {out : List Int} (ho : okL out) (hv : val out = val ((limbs m).take (limbs m).length) * val (limbs n)) : trimL out = limbs (m * n) := by
  refine trimL_eq ho ?_
  rw [hv, List.take_length, val_limbs, val_limbs]
  rfl
/-- The reference stores the last carry where 0 stood. -/
theorem mul_carry {a b out : List Int} {i : Nat} {c : Int} (h : MulInv a b out i b.length (nth a i) c) (hi : i < a.length) (hz : nth out (i + b.length) = 0) :
    okL (out.set (i + b.length) c) ∧ (out.set (i + b.length) c).length = a.length + b.length ∧ val (out.set (i + b.length) c) = val (a.take (i + 1)) * val b := by
  obtain ⟨h1, h2, h3, h4, h5⟩ := h
  refine ⟨okL_set h1 h3 h4, by rw [List.length_set, h2], ?_⟩
  rw [val_set _ _ _ (by omega), hz, h5, List.take_length, val_take_succ, Int.add_mul, Int.mul_assoc]
  simp only [Int.sub_zero]
  omega

end Go.Proofs.YtnpfmmdekjjnjaaGreatDoor.Pl

/- Plain: what the loop of the long division keeps. -/
namespace Go.Proofs.YtnpfmmdekjjnjaaGreatDoor.Pl

/-- From the top: behind the limbs from i on, the quotient's limbs so far and the rest r. -/
def LongInv (a out : List Int) (N i r : Nat) : Prop := okL out ∧ out.length = a.length ∧ r < N ∧ (∀ t, t < i → nth out t = 0) ∧ val (a.drop i) = N * val (out.drop i) + r
theorem long_start {a out : List Int} {N : Nat} (hN : 0 < N) (he : out = List.replicate a.length 0) : LongInv a out N a.length 0 := by
  subst he
  refine ⟨okL_replicate _, by simp, hN, fun t ht => ?_, ?_⟩
  · rw [nth_lt (by simpa using ht)]; simp
  · rw [List.drop_eq_nil_of_le (Nat.le_refl _), List.drop_eq_nil_of_le (by simp)]; simp [val]
/-- The number that is divided next. -/
def nxt (a : List Int) (i r : Nat) : Nat := (nth a i).toNat + 1000000000 * r
theorem nxt_list {a : List Int} (ha : okL a) (i r : Nat) : trimL ([nth a i] ++ limbs r) = limbs (nxt a i r) := by
  have h := nth_ok ha i
  refine trimL_eq (okL_append.2 ⟨by simp [okL, h], okL_limbs r⟩) ?_
  rw [List.singleton_append, val_cons, val_limbs]
  unfold nxt
  simp only [B] at *
  omega
theorem nxt_lt {a out : List Int} {N i r : Nat} (ha : okL a) (h : LongInv a out N (i + 1) r) : nxt a i r < 1000000000 * N := by
  have ho := nth_ok ha i
  have hr := h.2.2.1
  unfold nxt
  simp only [B] at ho
  omega
theorem long_step {a out : List Int} {N i r : Nat} (ha : okL a) (h : LongInv a out N (i + 1) r) (hi : i < a.length) (hN : 0 < N) : LongInv a (out.set i ((nxt a i r / N : Nat) : Int)) N i (nxt a i r % N) := by
  have hlt := nxt_lt ha h
  obtain ⟨h1, h2, h3, h4, h5⟩ := h
  have ho := nth_ok ha i
  have hq : nxt a i r / N < 1000000000 := (Nat.div_lt_iff_lt_mul hN).2 hlt
  refine ⟨okL_set h1 (Int.natCast_nonneg _) (Int.ofNat_lt.2 hq), by rw [List.length_set, h2], Nat.mod_lt _ hN, fun t ht => ?_, ?_⟩
  · rw [nth_set_ne (by omega)]; exact h4 t (by omega)
  · rw [drop_set_self (by omega), val_cons, val_drop_nth hi, h5]
    have e := Nat.div_add_mod (nxt a i r) N
    have e2 : (N : Int) * ((nxt a i r / N : Nat) : Int) + ((nxt a i r % N : Nat) : Int) = (nxt a i r : Nat) := by exact_mod_cast e
    have e3 : ((nxt a i r : Nat) : Int) = nth a i + B * r := by
      unfold nxt
      simp only [B] at *
      omega
    rw [Int.mul_add, Int.mul_add, ← Int.mul_assoc B, ← Int.mul_assoc (N : Int) B, Int.mul_comm B]
    omega
theorem long_skip {a out : List Int} {N i r : Nat} (ha : okL a) (h : LongInv a out N (i + 1) r) (hi : i < a.length) (hN : 0 < N) (hlt : nxt a i r < N) : LongInv a out N i (nxt a i r) := by
  have hz := h.2.2.2.1 i (by omega)
  have hl := h.2.1
  have hs := long_step ha h hi hN
  rw [Nat.div_eq_of_lt hlt, Nat.mod_eq_of_lt hlt] at hs
  have e : out.set i ((0 : Nat) : Int) = out := by
    apply List.ext_getElem?
    intro j
    rw [List.getElem?_set]
    split
    · rename_i hj
      subst hj
      rw [if_pos (by omega)]
      rw [nth_lt (by omega)] at hz
      rw [List.getElem?_eq_getElem (by omega), hz]
      rfl
    · rfl
  rw [e] at hs
  exact hs
theorem long_end {M N : Nat} {out : List Int} {r : Nat} (hN : 0 < N) (h : LongInv (limbs M) out N 0 r) : trimL out = limbs (M / N) ∧ r = M % N := by
  obtain ⟨h1, h2, h3, _, h5⟩ := h
  rw [List.drop_zero, List.drop_zero, val_limbs] at h5
  have hv := val_nonneg h1
  obtain ⟨q, hq⟩ := Int.eq_ofNat_of_zero_le hv
  rw [hq] at h5
  have h6 : M = N * q + r := by exact_mod_cast h5
  refine ⟨?_, ?_⟩
  · rw [trimL_eq h1 hq, h6, Nat.mul_add_div hN, Nat.div_eq_of_lt h3]; rfl
  · rw [h6, Nat.mul_add_mod, Nat.mod_eq_of_lt h3]
theorem nxt_rest (a : List Int) (i r N : Nat) : nxt a i r - N * (nxt a i r / N) = nxt a i r % N := by
  have := Nat.div_add_mod (nxt a i r) N
  omega

end Go.Proofs.YtnpfmmdekjjnjaaGreatDoor.Pl

/- Plain: how far a rounded float is from the exact result. Only numbers that are not negative and far from the format's ends. -/
namespace Go.Proofs.YtnpfmmdekjjnjaaGreatDoor.Fl
open Ieee

/-- The number m * 2 ^ e, in units of 2 ^ -1100. -/
def V (m : Nat) (e : Int) : Nat := m * 2 ^ (e + 1100).toNat
/-- The unit's inverse. -/
def U : Nat := 2 ^ ((0 : Int) + 1100).toNat
theorem V_zero (n : Nat) : V n 0 = n * U := by unfold V U; rfl

/-- The word x stands for the number v (in units of 2 ^ -1100). -/
def Is (x v : Nat) : Prop := ∃ m e, double.read x = .number false m e ∧ -1074 ≤ e ∧ e ≤ 1000 ∧ m < 2 ^ 54 ∧ V m e = v

/-- v is V to within k parts of 2 ^ 50. -/
def Close (k v V : Nat) : Prop := v * 1125899906842624 ≤ V * (1125899906842624 + k) ∧ V * 1125899906842624 ≤ v * (1125899906842624 + k)
theorem Close.refl (k v : Nat) : Close k v v := ⟨Nat.mul_le_mul_left _ (by omega), Nat.mul_le_mul_left _ (by omega)⟩
theorem Close.mono {k k' v V : Nat} (h : Close k v V) (hk : k ≤ k') : Close k' v V :=
  ⟨Nat.le_trans h.1 (Nat.mul_le_mul_left _ (by omega)), Nat.le_trans h.2 (Nat.mul_le_mul_left _ (by omega))⟩
/-- Two numbers that part by at most one part of 2 ^ 52 of each. -/
theorem close_of {v V t : Nat} (h1 : v ≤ V + t) (h2 : V ≤ v + t) (h3 : 4503599627370496 * t ≤ V) (_h4 : 4503599627370496 * t ≤ v) : Close 1 v V := by
  have e1 : t * 1125899906842624 ≤ V := by omega
  have e2 : t * 1125899906842624 ≤ v := by omega
  constructor
  · exact Nat.le_trans (Nat.mul_le_mul_right 1125899906842624 h1) (by rw [Nat.add_mul, Nat.mul_add V _ 1, Nat.mul_one]; exact Nat.add_le_add_left e1 _)
  · exact Nat.le_trans (Nat.mul_le_mul_right 1125899906842624 h2) (by rw [Nat.add_mul, Nat.mul_add v _ 1, Nat.mul_one]; exact Nat.add_le_add_left e2 _)
theorem Close.mul {k v V : Nat} (h : Close k v V) (u : Nat) : Close k (v * u) (V * u) := by
  obtain ⟨h1, h2⟩ := h
  have c1 := Nat.mul_le_mul_right u h1
  have c2 := Nat.mul_le_mul_right u h2
  constructor
  · rw [Nat.mul_right_comm v, Nat.mul_right_comm V]; exact c1
  · rw [Nat.mul_right_comm v, Nat.mul_right_comm V]; exact c2
theorem Close.add {k v V v' V' : Nat} (h : Close k v V) (h' : Close k v' V') : Close k (v + v') (V + V') :=
  ⟨by rw [Nat.add_mul, Nat.add_mul]; exact Nat.add_le_add h.1 h'.1, by rw [Nat.add_mul, Nat.add_mul]; exact Nat.add_le_add h.2 h'.2⟩
theorem sq_le (C j k : Nat) (h : k * j ≤ C) : (C + k) * (C + j) ≤ C * (C + (j + k + 1)) := by
  rw [Nat.add_mul, Nat.mul_add, Nat.mul_add, Nat.mul_add, Nat.mul_add, Nat.mul_add, Nat.mul_comm k C]
  omega
theorem close_step {u v V j k : Nat} (hj : j ≤ 1000) (hk : k ≤ 1000) (h : u * 1125899906842624 ≤ v * (1125899906842624 + j)) (h' : v * 1125899906842624 ≤ V * (1125899906842624 + k)) :
    u * 1125899906842624 ≤ V * (1125899906842624 + (j + k + 1)) := by
  have a1 := Nat.mul_le_mul_right 1125899906842624 h
  have a2 := Nat.mul_le_mul_right (1125899906842624 + j) h'
  have e1 : v * (1125899906842624 + j) * 1125899906842624 = v * 1125899906842624 * (1125899906842624 + j) := Nat.mul_right_comm _ _ _
  have hjk : j * k ≤ 1000 * 1000 := Nat.mul_le_mul hj hk
  have e2 : (1125899906842624 + k) * (1125899906842624 + j) ≤ 1125899906842624 * (1125899906842624 + (j + k + 1)) := sq_le _ _ _ (Nat.le_trans (by rw [Nat.mul_comm]; exact hjk) (by decide))
  have a3 := Nat.mul_le_mul_left V e2
  refine Nat.le_of_mul_le_mul_right (c := 1125899906842624) ?_ (by omega)
  rw [e1] at a1
  refine Nat.le_trans a1 (Nat.le_trans a2 ?_)
  rw [Nat.mul_assoc]
  refine Nat.le_trans a3 ?_
  rw [Nat.mul_comm 1125899906842624, ← Nat.mul_assoc]
  exact Nat.le_refl _
theorem Close.trans {j k u v V : Nat} (h : Close j u v) (h' : Close k v V) (hj : j ≤ 1000) (hk : k ≤ 1000) : Close (j + k + 1) u V :=
  ⟨close_step hj hk h.1 h'.1, by have := close_step hk hj h'.2 h.2; rw [Nat.add_comm k j] at this; exact this⟩

theorem is_zero : Is 0 0 := ⟨0, -1074, by decide, by decide, by decide, by decide, by simp [V]⟩

theorem cut_zero (n : Nat) : Toward.even.cut false n 0 = n := by
  simp [Toward.cut, Nat.mod_one]
theorem cut_even (n drop : Nat) (h : drop ≤ n.log2 + 2) : n / 2 ^ drop ≤ Toward.even.cut false n drop ∧ Toward.even.cut false n drop ≤ n / 2 ^ drop + 1 := by
  have e : 1 <<< min drop (n.log2 + 2) = 2 ^ drop := by rw [Nat.min_eq_left h, Nat.one_shiftLeft]
  simp only [Toward.cut, e]
  constructor
  · omega
  · generalize (decide (2 ^ drop < 2 * (n % 2 ^ drop)) || 2 ^ drop == 2 * (n % 2 ^ drop) && n / 2 ^ drop % 2 == 1) = b
    cases b <;> simp

theorem read_rung (L kept : Nat) (hL : L ≤ 2000) (h1 : 2 ^ 52 ≤ kept) (h2 : kept < 2 ^ 53) : double.read (L * 2 ^ 52 + kept) = .number false kept ((L : Int) - 1074) := by
  have d : double.signWeight = 2 ^ 63 := by decide
  have b : double.binade = 2 ^ 52 := by decide
  have i : double.infRung = 2047 * 2 ^ 52 := by decide
  have l : double.leastPlace = -1074 := by decide
  unfold Format.read
  rw [d, b, i, l]
  have e1 : (L * 2 ^ 52 + kept) / 2 ^ 63 % 2 = 0 := by omega
  have e2 : (L * 2 ^ 52 + kept) % 2 ^ 63 = L * 2 ^ 52 + kept := by omega
  simp only [e1, e2]
  rw [if_neg (by omega), if_pos (by omega)]
  have e3 : 2 ^ 52 + (L * 2 ^ 52 + kept) % 2 ^ 52 = kept := by omega
  have e4 : (L * 2 ^ 52 + kept) / 2 ^ 52 - 1 = L := by omega
  rw [e3, e4]
  congr 1

theorem word_rung (L kept : Nat) (hL : L < 2000) (h1 : 2 ^ 52 ≤ kept) (h2 : kept ≤ 2 ^ 53) : Is (L * 2 ^ 52 + kept) (kept * 2 ^ (L + 26)) := by
  rcases Nat.lt_or_ge kept (2 ^ 53) with h | h
  · refine ⟨kept, _, read_rung L kept (by omega) h1 h, by omega, by omega, by omega, ?_⟩
    unfold V
    congr 2
    omega
  · have hk : kept = 2 ^ 53 := by omega
    subst hk
    have e : L * 2 ^ 52 + 2 ^ 53 = (L + 1) * 2 ^ 52 + 2 ^ 52 := by omega
    rw [e]
    refine ⟨2 ^ 52, _, read_rung (L + 1) (2 ^ 52) (by omega) (by omega) (by omega), by omega, by omega, by omega, ?_⟩
    unfold V
    have e2 : (((L + 1 : Nat) : Int) - 1074 + 1100).toNat = (L + 26) + 1 := by omega
    rw [e2, Nat.pow_succ]
    omega

/-- The nearest word. -/
theorem near (mag : Nat) (place : Int) (h1 : -1100 ≤ place) (h23 : mag = 0 ∨ (-1000 ≤ place + mag.log2 ∧ place + mag.log2 ≤ 900)) :
    ∃ v, Is (double.nearest false mag place) v ∧ Close 1 v (V mag place) := by
  rcases Nat.eq_zero_or_pos mag with h0 | h0
  · subst h0
    exact ⟨0, by simpa [Format.nearest, Format.word] using is_zero, by simp [V, Close]⟩
  · obtain ⟨h2, h3⟩ := h23.resolve_left (by omega)
    have l : double.leastPlace = -1074 := by decide
    have b : double.binade = 2 ^ 52 := by decide
    have i : double.infRung = 2047 * 2 ^ 52 := by decide
    have fb : double.fractionBits = 52 := by decide
    have hlo : 2 ^ mag.log2 ≤ mag := Nat.log2_self_le (by omega)
    have hhi : mag < 2 ^ (mag.log2 + 1) := Nat.lt_log2_self
    unfold Format.nearest
    rw [if_neg (by omega), l, b, i, fb]
    generalize hg : mag.log2 = g at *
    have hlast : max (place + (g : Int) - (52 : Nat)) (-1074) = place + g - 52 := by omega
    simp only [hlast]
    obtain ⟨L, hL⟩ : ∃ L : Nat, place + (g : Int) - 52 = (L : Int) - 1074 := ⟨(place + g - 52 + 1074).toNat, by omega⟩
    have hL2 : L < 2000 := by omega
    have e0 : (place + (g : Int) - 52 - -1074).toNat = L := by omega
    rw [e0]
    rcases Nat.lt_or_ge 52 g with hd | hd
    · have e1 : (place - (place + (g : Int) - 52)).toNat = 0 := by omega
      have e2 : (place + (g : Int) - 52 - place).toNat = g - 52 := by omega
      rw [e1, e2, Nat.shiftLeft_zero]
      obtain ⟨c1, c2⟩ := cut_even mag (g - 52) (by rw [hg]; omega)
      generalize Toward.even.cut false mag (g - 52) = kept at *
      have p1 : 2 ^ 52 * 2 ^ (g - 52) = 2 ^ g := by rw [← Nat.pow_add]; congr 1; omega
      have p2 : 2 ^ 53 * 2 ^ (g - 52) = 2 ^ (g + 1) := by rw [← Nat.pow_add]; congr 1; omega
      have pp : 0 < 2 ^ (g - 52) := Nat.two_pow_pos _
      have k1 : 2 ^ 52 ≤ mag / 2 ^ (g - 52) := (Nat.le_div_iff_mul_le pp).2 (by rw [p1]; exact hlo)
      have k2 : mag / 2 ^ (g - 52) < 2 ^ 53 := (Nat.div_lt_iff_lt_mul pp).2 (by rw [p2]; exact hhi)
      have hm := Nat.div_add_mod mag (2 ^ (g - 52))
      have hmod := Nat.mod_lt mag pp
      refine ⟨kept * 2 ^ (L + 26), ?_, ?_⟩
      · have hw := word_rung L kept hL2 (by omega) (by omega)
        rw [Nat.min_eq_left (by omega)]
        exact hw
      · have ev : V mag place = mag * 2 ^ (place + 1100).toNat := rfl
        have el : L + 26 = (g - 52) + (place + 1100).toNat := by omega
        rw [ev, el, Nat.pow_add, ← Nat.mul_assoc]
        generalize 2 ^ (place + 1100).toNat = u
        generalize hq : mag / 2 ^ (g - 52) = q at *
        generalize mag % 2 ^ (g - 52) = r at *
        generalize 2 ^ (g - 52) = t at *
        have hk : kept = q ∨ kept = q + 1 := by omega
        have hqt : 2 ^ 52 * t ≤ t * q := by rw [Nat.mul_comm]; exact Nat.mul_le_mul_left _ k1
        have hmag : t * q + r = mag := hm
        -- both differ by at most t, and t is at most one part of 2 ^ 52 of each
        have a1 : kept * t ≤ mag + t := by
          rcases hk with rfl | rfl
          · rw [Nat.mul_comm]; omega
          · rw [Nat.add_mul, Nat.mul_comm]; omega
        have a2 : mag ≤ kept * t + t := by
          rcases hk with rfl | rfl
          · rw [Nat.mul_comm kept]; omega
          · rw [Nat.add_mul, Nat.mul_comm q]; omega
        have a3 : 2 ^ 52 * t ≤ mag := by omega
        have a4 : 2 ^ 52 * t ≤ kept * t := Nat.mul_le_mul_right _ (by omega)
        exact Close.mul (close_of a1 a2 (by omega) (by omega)) u
    · have e1 : (place - (place + (g : Int) - 52)).toNat = 52 - g := by omega
      have e2 : (place + (g : Int) - 52 - place).toNat = 0 := by omega
      rw [e1, e2, cut_zero, Nat.shiftLeft_eq]
      have p1 : 2 ^ g * 2 ^ (52 - g) = 2 ^ 52 := by rw [← Nat.pow_add]; congr 1; omega
      have p2 : 2 ^ (g + 1) * 2 ^ (52 - g) = 2 ^ 53 := by rw [← Nat.pow_add]; congr 1; omega
      have pp : 0 < 2 ^ (52 - g) := Nat.two_pow_pos _
      have k1 : 2 ^ 52 ≤ mag * 2 ^ (52 - g) := by rw [← p1]; exact Nat.mul_le_mul_right _ hlo
      have k2 : mag * 2 ^ (52 - g) < 2 ^ 53 := by rw [← p2]; exact Nat.mul_lt_mul_of_pos_right hhi pp
      refine ⟨mag * 2 ^ (52 - g) * 2 ^ (L + 26), ?_, ?_⟩
      · have hw := word_rung L _ hL2 k1 (Nat.le_of_lt k2)
        generalize mag * 2 ^ (52 - g) = kept at *
        rw [Nat.min_eq_left (by omega)]
        exact hw
      · have ev : V mag place = mag * 2 ^ (52 - g) * 2 ^ (L + 26) := by
          unfold V
          rw [Nat.mul_assoc, ← Nat.pow_add]
          congr 2
          omega
        rw [ev]
        exact Close.refl _ _

theorem U_pos : 0 < U := Nat.two_pow_pos _
theorem log_bounds {mag : Nat} {place : Int} (h1 : -1100 ≤ place) (h2 : U ≤ V mag place * 2 ^ 60) (h3 : V mag place ≤ 2 ^ 100 * U) : -1000 ≤ place + mag.log2 ∧ place + mag.log2 ≤ 900 := by
  have hm : mag ≠ 0 := by
    rintro rfl
    have := U_pos
    simp [V] at h2
    omega
  have hlo : 2 ^ mag.log2 ≤ mag := Nat.log2_self_le hm
  have hhi : mag < 2 ^ (mag.log2 + 1) := Nat.lt_log2_self
  generalize mag.log2 = g at *
  unfold V U at *
  have a1 : 2 ^ ((0 : Int) + 1100).toNat < 2 ^ (g + 1 + (place + 1100).toNat + 60) := by
    refine Nat.lt_of_le_of_lt h2 ?_
    rw [Nat.pow_add 2 (g + 1 + (place + 1100).toNat) 60, Nat.pow_add 2 (g + 1) (place + 1100).toNat]
    exact Nat.mul_lt_mul_of_pos_right (Nat.mul_lt_mul_of_pos_right hhi (Nat.two_pow_pos _)) (Nat.two_pow_pos _)
  have a2 : 2 ^ (g + (place + 1100).toNat) ≤ 2 ^ (100 + ((0 : Int) + 1100).toNat) := by
    rw [Nat.pow_add 2 g (place + 1100).toNat, Nat.pow_add 2 100 ((0 : Int) + 1100).toNat]
    exact Nat.le_trans (Nat.mul_le_mul_right _ hlo) h3
  have b1 := (Nat.pow_lt_pow_iff_right (by omega : 1 < 2)).1 a1
  have b2 := (Nat.pow_le_pow_iff_right (by omega : 1 < 2)).1 a2
  omega
/-- The nearest word, by the size of the number. -/
theorem near_of (mag : Nat) (place : Int) (h1 : -1100 ≤ place) (h2 : V mag place = 0 ∨ U ≤ V mag place * 2 ^ 60) (h3 : V mag place ≤ 2 ^ 100 * U) :
    ∃ v, Is (double.nearest false mag place) v ∧ Close 1 v (V mag place) := by
  refine near mag place h1 ?_
  rcases h2 with h2 | h2
  · left
    unfold V at h2
    rcases Nat.mul_eq_zero.1 h2 with h | h
    · exact h
    · have := Nat.two_pow_pos (place + 1100).toNat; omega
  · exact .inr (log_bounds h1 h2 h3)

/-- An integer below 2 ^ 60, as a float. -/
theorem of_int (n : Nat) (h : n < 2 ^ 60) : ∃ v, Is (Go.FloatKind.nearest .f64 (n : Int)) v ∧ Close 1 v (n * U) := by
  have hu := U_pos
  obtain ⟨v, h1, h2⟩ := near_of n 0 (by omega) (by
    rw [V_zero]
    rcases Nat.eq_zero_or_pos n with rfl | h0
    · left; simp
    · right
      have : 1 * U ≤ n * U := Nat.mul_le_mul_right _ h0
      omega) (by rw [V_zero]; exact Nat.mul_le_mul_right _ (by omega))
  refine ⟨v, ?_, ?_⟩
  · have e : Go.FloatKind.nearest .f64 (n : Int) = double.nearest false n 0 := by
      unfold Go.FloatKind.nearest Go.FloatKind.encode Go.FloatKind.format Format.write
      have : decide ((n : Int) < 0) = false := by simp
      simp only [this, Int.natAbs_natCast]
    rw [e]
    exact h1
  · rw [V_zero] at h2
    exact h2

theorem read_base : double.read 4741671816366391296 = .number false 8388608000000000 (-23) := by decide

theorem pow_split {p q : Nat} (h : p = q + 23) : (2 : Nat) ^ p = 2 ^ q * 8388608 := by subst h; rw [Nat.pow_add]
/-- Times the base. -/
theorem mul_base {x a : Nat} (hx : Is x a) (h0 : a = 0 ∨ U ≤ a * 2 ^ 30) (h1 : a ≤ 2 ^ 66 * U) : ∃ r v, Go.floatBits .mul .f64 x 4741671816366391296 = some r ∧ Is r v ∧ Close 1 v (a * 1000000000) := by
  obtain ⟨m, i, hr, i1, i2, hm, rfl⟩ := hx
  have ev : V (m * 8388608000000000) (i + -23) = V m i * 1000000000 := by
    unfold V
    rw [pow_split (p := (i + 1100).toNat) (q := (i + -23 + 1100).toNat) (by omega)]
    generalize 2 ^ (i + -23 + 1100).toNat = t
    rw [Nat.mul_assoc, Nat.mul_assoc, Nat.mul_assoc]
    congr 1
    omega
  obtain ⟨v, h2, h3⟩ := near_of (m * 8388608000000000) (i + -23) (by omega)
    (by
      rw [ev]
      rcases h0 with h0 | h0
      · left; rw [h0]
      · right; rw [Nat.mul_assoc]; exact Nat.le_trans h0 (Nat.mul_le_mul_left _ (by decide)))
    (by
      rw [ev]
      refine Nat.le_trans (Nat.mul_le_mul_right _ h1) ?_
      rw [Nat.mul_right_comm]
      exact Nat.mul_le_mul_right _ (by decide))
  refine ⟨double.nearest false (m * 8388608000000000) (i + -23), v, ?_, h2, by rw [ev] at h3; exact h3⟩
  unfold Go.floatBits Go.FloatKind.format Format.mul
  rw [hr, read_base]
  rfl

/-- A sum. -/
theorem add_two {x y a b : Nat} (hx : Is x a) (hy : Is y b) (h0 : a + b = 0 ∨ U ≤ (a + b) * 2 ^ 30) (h1 : a + b ≤ 2 ^ 96 * U) : ∃ r v, Go.floatBits .add .f64 x y = some r ∧ Is r v ∧ Close 1 v (a + b) := by
  obtain ⟨m, i, hr, i1, i2, hm, rfl⟩ := hx
  obtain ⟨n, j, hs, j1, j2, hn, rfl⟩ := hy
  have e1 : V m i = m * 2 ^ (i - min i j).toNat * 2 ^ (min i j + 1100).toNat := by
    unfold V; rw [Nat.mul_assoc, ← Nat.pow_add]; congr 2; omega
  have e2 : V n j = n * 2 ^ (j - min i j).toNat * 2 ^ (min i j + 1100).toNat := by
    unfold V; rw [Nat.mul_assoc, ← Nat.pow_add]; congr 2; omega
  have ev : V (m * 2 ^ (i - min i j).toNat + n * 2 ^ (j - min i j).toNat) (min i j) = V m i + V n j := by
    rw [e1, e2]; unfold V; rw [Nat.add_mul]
  obtain ⟨v, h2, h3⟩ := near_of _ (min i j) (by omega)
    (by
      rw [ev]
      rcases h0 with h0 | h0
      · exact .inl h0
      · exact .inr (Nat.le_trans h0 (Nat.mul_le_mul_left _ (by decide))))
    (by
      rw [ev]
      exact Nat.le_trans h1 (Nat.mul_le_mul_right _ (by decide)))
  refine ⟨double.nearest false (m * 2 ^ (i - min i j).toNat + n * 2 ^ (j - min i j).toNat) (min i j), v, ?_, h2, by rw [ev] at h3; exact h3⟩
  unfold Go.floatBits Go.FloatKind.format Format.add
  rw [hr, hs]
  simp only [Datum.sum, signed, Nat.shiftLeft_eq, Option.map, Format.write, Bool.false_eq_true, if_false]
  generalize m * 2 ^ (i - min i j).toNat = p
  generalize n * 2 ^ (j - min i j).toNat = q
  have g1 : ((p : Int) + (q : Int)).natAbs = p + q := by omega
  rw [g1]
  congr 2
  split
  · rfl
  · simp; omega

theorem cut_toward (n drop : Nat) : Toward.zero.cut false n drop = n / 2 ^ drop := by
  simp only [Toward.cut, Bool.toNat_false, Nat.add_zero, Nat.one_shiftLeft]
  rcases Nat.lt_or_ge drop (n.log2 + 2) with h | h
  · rw [Nat.min_eq_left (by omega)]
  · rw [Nat.min_eq_right h]
    have hn : n < 2 ^ (n.log2 + 2) := by
      have := Nat.lt_log2_self (n := n)
      exact Nat.lt_of_lt_of_le this (Nat.pow_le_pow_right (by omega) (by omega))
    have hn2 : n < 2 ^ drop := Nat.lt_of_lt_of_le hn (Nat.pow_le_pow_right (by omega) h)
    rw [Nat.div_eq_of_lt hn, Nat.div_eq_of_lt hn2]
/-- Cut towards zero. -/
theorem to_int {x v : Nat} (hx : Is x v) (h : v < 2 ^ 62 * U) : Go.floatToIntVal .f64 x .i64 = some ((v / U : Nat) : Int) := by
  obtain ⟨m, i, hr, i1, i2, hm, rfl⟩ := hx
  have hu := U_pos
  have e : m <<< i.toNat / 2 ^ (-i).toNat = V m i / U := by
    unfold V U
    rw [Nat.shiftLeft_eq]
    rcases Int.le_total 0 i with h0 | h0
    · have e1 : (-i).toNat = 0 := by omega
      have e2 : (i + 1100).toNat = i.toNat + ((0 : Int) + 1100).toNat := by omega
      rw [e1, e2, Nat.pow_zero, Nat.div_one, Nat.pow_add, ← Nat.mul_assoc, Nat.mul_div_cancel _ (Nat.two_pow_pos _)]
    · have e1 : i.toNat = 0 := by omega
      have e2 : ((0 : Int) + 1100).toNat = (i + 1100).toNat + (-i).toNat := by omega
      rw [e1, e2, Nat.pow_zero, Nat.mul_one, Nat.pow_add, Nat.mul_comm m, Nat.mul_div_mul_left _ _ (Nat.two_pow_pos _)]
  have hlt : V m i / U < 2 ^ 62 := (Nat.div_lt_iff_lt_mul hu).2 h
  have hti : (Ieee.double.read x).toInt .zero = some ((V m i / U : Nat) : Int) := by
    rw [hr]
    simp only [Datum.toInt, Datum.integral, cut_toward, signed, Nat.shiftLeft_zero, Bool.false_eq_true, if_false]
    rw [e]
  unfold Go.floatToIntVal Go.FloatKind.decode Go.FloatKind.format
  rw [hti]
  generalize V m i / U = q at *
  have : Go.IntKind.min .i64 ≤ (q : Int) ∧ (q : Int) ≤ Go.IntKind.max .i64 := by
    constructor
    · have : Go.IntKind.min .i64 = -9223372036854775808 := by decide
      omega
    · have : Go.IntKind.max .i64 = 9223372036854775807 := by decide
      omega
  simp only [this, and_self, if_true]

/-- Where the last digit of a number of this size stands. -/
theorem place_bounds {m : Nat} {i : Int} (i1 : -1074 ≤ i) (hm : m < 2 ^ 54) (h0 : U ≤ V m i) (h1 : V m i ≤ 2 ^ 96 * U) : 0 < m ∧ -54 ≤ i ∧ i ≤ 96 := by
  have hm0 : 0 < m := by
    rcases Nat.eq_zero_or_pos m with rfl | h
    · have := U_pos
      simp [V] at h0
      omega
    · exact h
  unfold V U at *
  have a1 : 2 ^ ((0 : Int) + 1100).toNat < 2 ^ (54 + (i + 1100).toNat) := by
    refine Nat.lt_of_le_of_lt h0 ?_
    rw [Nat.pow_add 2 54 (i + 1100).toNat]
    exact Nat.mul_lt_mul_of_pos_right hm (Nat.two_pow_pos _)
  have a2 : 2 ^ (i + 1100).toNat ≤ 2 ^ (96 + ((0 : Int) + 1100).toNat) := by
    rw [Nat.pow_add 2 96 ((0 : Int) + 1100).toNat]
    refine Nat.le_trans ?_ h1
    exact Nat.le_mul_of_pos_left _ hm0
  have b1 := (Nat.pow_lt_pow_iff_right (by omega : 1 < 2)).1 a1
  have b2 := (Nat.pow_le_pow_iff_right (by omega : 1 < 2)).1 a2
  omega

/-- The digits of a quotient and the mark of what is left over. -/
theorem quot_digits (D n : Nat) (hn : 0 < n) : (2 * (D / n) + (D % n != 0).toNat) * n ≤ 2 * D + n ∧ 2 * D ≤ (2 * (D / n) + (D % n != 0).toNat) * n + n := by
  have h := Nat.div_add_mod D n
  have h2 := Nat.mod_lt D hn
  generalize D / n = q at *
  generalize D % n = r at *
  rw [Nat.add_mul, Nat.mul_assoc, Nat.mul_comm q n]
  generalize n * q = nq at *
  rcases Nat.eq_zero_or_pos r with rfl | h3
  · simp; omega
  · have : (r != 0) = true := by simp; omega
    rw [this]
    simp
    omega

/-- A quotient. -/
theorem quot {x y a b : Nat} (hx : Is x a) (hy : Is y b) (ha0 : U ≤ a) (ha1 : a ≤ 2 ^ 96 * U) (hb0 : U ≤ b) (hb1 : b ≤ 2 ^ 96 * U) (hab : b ≤ a * 2 ^ 50) (hba : a ≤ b * 2 ^ 60) :
    ∃ r v, Go.floatBits .quo .f64 x y = some r ∧ Is r v ∧ Close 4 (v * b) (a * U) := by
  obtain ⟨m, i, hr, i1, i2, hm, rfl⟩ := hx
  obtain ⟨n, j, hs, j1, j2, hn, rfl⟩ := hy
  obtain ⟨hm0, i3, i4⟩ := place_bounds i1 hm ha0 ha1
  obtain ⟨hn0, j3, j4⟩ := place_bounds j1 hn hb0 hb1
  have fb : double.fractionBits = 52 := by decide
  have lm1 : 2 ^ m.log2 ≤ m := Nat.log2_self_le (by omega)
  have lm2 : m.log2 < 54 := (Nat.log2_lt (by omega)).2 hm
  have ln1 : n < 2 ^ (n.log2 + 1) := Nat.lt_log2_self
  have ln2 : n.log2 < 54 := (Nat.log2_lt (by omega)).2 hn
  have hop : Go.floatBits .quo .f64 x y = some (double.nearest false (2 * ((m <<< (52 + 2 + n.log2 - m.log2)) / n) + ((m <<< (52 + 2 + n.log2 - m.log2)) % n != 0).toNat) (i - j - (52 + 2 + n.log2 - m.log2 : Nat) - 1)) := by
    unfold Go.floatBits Go.FloatKind.format Format.div
    rw [hr, hs, fb]
    simp only [Datum.quotient]
    rw [if_neg (by omega)]
    rfl
  rw [Nat.shiftLeft_eq] at hop
  generalize hmore : 52 + 2 + n.log2 - m.log2 = more at *
  have hd := quot_digits (m * 2 ^ more) n hn0
  have hdn : 2 ^ 53 ≤ m * 2 ^ more / n := by
    rw [Nat.le_div_iff_mul_le hn0]
    have e1 : 2 ^ 53 * 2 ^ (n.log2 + 1) = 2 ^ m.log2 * 2 ^ more := by
      rw [← Nat.pow_add, ← Nat.pow_add]; congr 1; omega
    exact Nat.le_trans (Nat.mul_le_mul_left _ (Nat.le_of_lt ln1)) (by rw [e1]; exact Nat.mul_le_mul_right _ lm1)
  generalize hmag : 2 * (m * 2 ^ more / n) + (m * 2 ^ more % n != 0).toNat = mag at *
  have hmag53 : 2 ^ 54 ≤ mag := by omega
  -- the unit in which all is reckoned
  have e1 : V mag (i - j - (more : Nat) - 1) * V n j = mag * n * (2 ^ (i - j - (more : Nat) - 1 + 1100).toNat * 2 ^ (j + 1100).toNat) := by
    unfold V
    rw [Nat.mul_assoc, Nat.mul_assoc, Nat.mul_left_comm (2 ^ _) n]
  have e2 : V m i * U = 2 * (m * 2 ^ more) * (2 ^ (i - j - (more : Nat) - 1 + 1100).toNat * 2 ^ (j + 1100).toNat) := by
    unfold V U
    have : 2 * (m * 2 ^ more) * (2 ^ (i - j - (more : Nat) - 1 + 1100).toNat * 2 ^ (j + 1100).toNat) = m * (2 ^ 1 * 2 ^ more * (2 ^ (i - j - (more : Nat) - 1 + 1100).toNat * 2 ^ (j + 1100).toNat)) := by
      rw [Nat.pow_one, Nat.mul_left_comm 2 m, Nat.mul_assoc m, Nat.mul_assoc 2]
    rw [this, ← Nat.pow_add, ← Nat.pow_add, ← Nat.pow_add, Nat.mul_assoc, ← Nat.pow_add]
    congr 2
    omega
  have e3 : V n j * 2 ^ (i - j - (more : Nat) - 1 + 1100).toNat = n * (2 ^ (i - j - (more : Nat) - 1 + 1100).toNat * 2 ^ (j + 1100).toNat) := by
    unfold V
    rw [Nat.mul_assoc, Nat.mul_comm (2 ^ (j + 1100).toNat)]
  have e4 : V mag (i - j - (more : Nat) - 1) = mag * 2 ^ (i - j - (more : Nat) - 1 + 1100).toNat := rfl
  have hplace : -1100 ≤ i - j - (more : Nat) - 1 := by omega
  have hnear := near_of mag (i - j - (more : Nat) - 1) hplace
  generalize hv0 : V mag (i - j - (more : Nat) - 1) = v0 at *
  generalize V m i = a at *
  generalize V n j = b at *
  have hd1 := Nat.mul_le_mul_right (2 ^ (i - j - (more : Nat) - 1 + 1100).toNat * 2 ^ (j + 1100).toNat) hd.1
  have hd2 := Nat.mul_le_mul_right (2 ^ (i - j - (more : Nat) - 1 + 1100).toNat * 2 ^ (j + 1100).toNat) hd.2
  rw [Nat.add_mul, ← e1, ← e2, ← e3] at hd1
  rw [Nat.add_mul, ← e1, ← e2, ← e3] at hd2
  generalize 2 ^ (i - j - (more : Nat) - 1 + 1100).toNat = t at *
  have hvt : 2 ^ 54 * (b * t) ≤ v0 * b := by
    rw [e4, Nat.mul_comm b t, ← Nat.mul_assoc]
    exact Nat.mul_le_mul_right _ (Nat.mul_le_mul_right _ hmag53)
  have c0 : Close 1 (v0 * b) (a * U) := by
    generalize v0 * b = p at *
    generalize a * U = q at *
    generalize b * t = z at *
    exact close_of hd1 hd2 (by omega) (by omega)
  have hp : 0 < b := Nat.lt_of_lt_of_le U_pos hb0
  have hpa : 0 < a := Nat.lt_of_lt_of_le U_pos ha0
  have b1 : a * U ≤ 2 * (v0 * b) := by
    generalize v0 * b = p at *
    generalize a * U = q at *
    generalize b * t = z at *
    omega
  have b2 : v0 * b ≤ 2 * (a * U) := by
    generalize v0 * b = p at *
    generalize a * U = q at *
    generalize b * t = z at *
    omega
  obtain ⟨v, h2, h3⟩ := hnear
    (by
      right
      refine Nat.le_of_mul_le_mul_left (c := a) ?_ hpa
      refine Nat.le_trans b1 ?_
      have := Nat.mul_le_mul_left (2 * v0) hab
      rw [← Nat.mul_assoc]
      refine Nat.le_trans this ?_
      rw [Nat.mul_comm a (2 ^ 50), ← Nat.mul_assoc, Nat.mul_comm a, Nat.mul_comm 2 v0, Nat.mul_assoc v0]
      exact Nat.mul_le_mul_right _ (Nat.mul_le_mul_left _ (by decide)))
    (by
      refine Nat.le_of_mul_le_mul_right (c := b) ?_ hp
      refine Nat.le_trans b2 ?_
      have := Nat.mul_le_mul_right U hba
      refine Nat.le_trans (Nat.mul_le_mul_left 2 this) ?_
      rw [Nat.mul_comm b, Nat.mul_right_comm (2 ^ 60), ← Nat.mul_assoc, ← Nat.mul_assoc]
      exact Nat.mul_le_mul_right _ (Nat.mul_le_mul_right _ (by decide)))
  exact ⟨_, v, hop, h2, ((h3.mul b).trans c0 (by omega) (by omega)).mono (by omega)⟩

end Go.Proofs.YtnpfmmdekjjnjaaGreatDoor.Fl

/- Plain: the guess by floats is near enough to the digit of a long division. -/
namespace Go.Proofs.YtnpfmmdekjjnjaaGreatDoor.Fl

theorem Close.symm {k v V : Nat} (h : Close k v V) : Close k V v := ⟨h.2, h.1⟩
theorem Close.cancel {k v V u : Nat} (hu : 0 < u) (h : Close k (v * u) (V * u)) : Close k v V := by
  obtain ⟨h1, h2⟩ := h
  constructor
  · refine Nat.le_of_mul_le_mul_right (c := u) ?_ hu
    rw [Nat.mul_right_comm v, Nat.mul_right_comm V]; exact h1
  · refine Nat.le_of_mul_le_mul_right (c := u) ?_ hu
    rw [Nat.mul_right_comm v, Nat.mul_right_comm V]; exact h2

/-- The chain of the three errors. -/
theorem chain {v a b T D : Nat} (ha : Close 9 a (T * U)) (hb : Close 5 b (D * U)) (hq : Close 4 (v * b) (a * U)) : Close 20 (v * D) (T * U) := by
  have h1 : Close 5 (v * (D * U)) (v * b) := by
    have := hb.symm.mul v
    rw [Nat.mul_comm (D * U), Nat.mul_comm b] at this
    exact this
  have h2 := (h1.trans hq (by omega) (by omega)).trans (ha.mul U) (by omega) (by omega)
  refine Close.cancel U_pos ?_
  rw [Nat.mul_assoc]
  exact h2

theorem re1 (g u d c : Nat) : g * u * (d * c) = g * d * c * u := by ac_rfl
/-- The quotient of the highest limbs, cut, against the digit. -/
theorem window {T D A N P v : Nat} (hP : 0 < P) (hA1 : T * P ≤ A) (hA2 : A < (T + 1) * P) (hN1 : D * P ≤ N) (hN2 : N < (D + 1) * P) (hD : 1000000000 ≤ D) (hAN : A < 1000000000 * N)
    (hc : Close 20 (v * D) (T * U)) : A / N ≤ v / U + 2000 ∧ v / U ≤ A / N + 2000 ∧ v / U ≤ 1000000003 := by
  have hU := U_pos
  have hDp : 0 < D := by omega
  have hNp : 0 < N := Nat.lt_of_lt_of_le (Nat.mul_pos hDp hP) hN1
  have hT : T < 1000000000 * (D + 1) := by
    refine Nat.lt_of_mul_lt_mul_right (a := P) ?_
    refine Nat.lt_of_le_of_lt hA1 (Nat.lt_trans hAN ?_)
    rw [Nat.mul_assoc]
    exact Nat.mul_lt_mul_of_pos_left hN2 (by omega)
  have hg := Nat.div_mul_le_self v U
  have hg2 : v < (v / U + 1) * U := by
    have := Nat.lt_div_mul_add (a := v) hU
    rw [Nat.add_mul, Nat.one_mul]
    exact this
  generalize v / U = g at *
  obtain ⟨c1, c2⟩ := hc
  have hTD : T ≤ 2000000000 * D := by omega
  -- g * D is at most T + D
  have h1 : g * D ≤ T + D := by
    have e1 : g * D * 1125899906842624 ≤ T * (1125899906842624 + 20) := by
      refine Nat.le_of_mul_le_mul_right (c := U) ?_ hU
      have a1 : g * D * 1125899906842624 * U ≤ v * D * 1125899906842624 := by
        have := Nat.mul_le_mul_right (D * 1125899906842624) hg
        rw [re1, ← Nat.mul_assoc] at this
        exact this
      refine Nat.le_trans a1 (Nat.le_trans c1 ?_)
      rw [Nat.mul_right_comm]
      exact Nat.le_refl _
    omega
  have hg3 : g ≤ 1000000002 := by
    rcases Nat.lt_or_ge 1000000002 g with h | h
    · have := Nat.mul_le_mul_right D h
      omega
    · exact h
  -- T is less than (g + 2) * D
  have h2 : T < (g + 2) * D := by
    have e1 : T * 1125899906842624 ≤ (g + 1) * D * (1125899906842624 + 20) := by
      refine Nat.le_of_mul_le_mul_right (c := U) ?_ hU
      have a1 : v * D * (1125899906842624 + 20) ≤ (g + 1) * D * (1125899906842624 + 20) * U := by
        have := Nat.mul_le_mul_right (D * (1125899906842624 + 20)) (Nat.le_of_lt hg2)
        rw [re1, ← Nat.mul_assoc] at this
        exact this
      rw [Nat.mul_right_comm]
      exact Nat.le_trans c2 a1
    have e2 : (g + 1) * D ≤ 1000000003 * D := Nat.mul_le_mul_right D (by omega)
    have e3 : (g + 2) * D = (g + 1) * D + D := by rw [Nat.add_mul, Nat.add_mul]; omega
    rw [e3]
    generalize (g + 1) * D = z at *
    omega
  refine ⟨?_, ?_, by omega⟩
  · have : A / N < g + 2 := by
      rw [Nat.div_lt_iff_lt_mul hNp]
      refine Nat.lt_of_lt_of_le hA2 ?_
      refine Nat.le_trans (Nat.mul_le_mul_right P h2) ?_
      rw [Nat.mul_assoc]
      exact Nat.mul_le_mul_left _ hN1
    omega
  · rcases Nat.lt_or_ge 2000 g with h | h
    · obtain ⟨k, rfl⟩ : ∃ k, g = k + 2000 := ⟨g - 2000, by omega⟩
      have : k ≤ A / N := by
        rw [Nat.le_div_iff_mul_le hNp]
        refine Nat.le_trans (Nat.mul_le_mul_left k (Nat.le_of_lt hN2)) (Nat.le_trans ?_ hA1)
        rw [← Nat.mul_assoc]
        refine Nat.mul_le_mul_right P ?_
        rw [Nat.add_mul] at h1
        rw [Nat.mul_add]
        generalize k * D = z at *
        omega
      omega
    · exact Nat.le_trans h (Nat.le_add_left _ _)

/-- The word of the base. -/
def BW : Nat := 4741671816366391296
/-- A natural number as a float. -/
def fl (n : Nat) : Nat := Go.floatOfInt .f64 (n : Int)

theorem small_of_close {k v V : Nat} (hk : k ≤ 100) (h : Close k v V) : v ≤ 2 * V ∧ V ≤ 2 * v := by
  obtain ⟨h1, h2⟩ := h
  constructor
  · have : V * (1125899906842624 + k) ≤ V * (2 * 1125899906842624) := Nat.mul_le_mul_left _ (by omega)
    refine Nat.le_of_mul_le_mul_right (c := 1125899906842624) ?_ (by omega)
    refine Nat.le_trans h1 (Nat.le_trans this ?_)
    rw [← Nat.mul_assoc, Nat.mul_comm V 2]
    exact Nat.le_refl _
  · have : v * (1125899906842624 + k) ≤ v * (2 * 1125899906842624) := Nat.mul_le_mul_left _ (by omega)
    refine Nat.le_of_mul_le_mul_right (c := 1125899906842624) ?_ (by omega)
    refine Nat.le_trans h2 (Nat.le_trans this ?_)
    rw [← Nat.mul_assoc, Nat.mul_comm v 2]
    exact Nat.le_refl _

theorem size {k V v m : Nat} (hk : k ≤ 100) (hc : Close k v (V * U)) (hV : V ≤ m) : (v = 0 ∨ U ≤ v * 2 ^ 30) ∧ v ≤ 2 * m * U := by
  obtain ⟨c1, c2⟩ := small_of_close hk hc
  constructor
  · rcases Nat.eq_zero_or_pos V with rfl | hp
    · left; omega
    · right
      have : 1 * U ≤ V * U := Nat.mul_le_mul_right _ hp
      generalize V * U = z at *
      generalize U = u at *
      omega
  · have := Nat.mul_le_mul_right U hV
    rw [Nat.mul_assoc]
    generalize V * U = z at *
    generalize m * U = y at *
    omega
theorem step_int (n : Nat) (h : n < 1000000000) : ∃ v, Is (fl n) v ∧ Close 1 v (n * U) := of_int n (by omega)
theorem step_mul {x v V V' k : Nat} (hk : k ≤ 50) (hx : Is x v) (hc : Close k v (V * U)) (hV : V ≤ 1000000000000000000) (hV' : V' = V * 1000000000) : ∃ r v', Go.floatBits .mul .f64 x BW = some r ∧ Is r v' ∧ Close (k + 2) v' (V' * U) := by
  subst hV'
  obtain ⟨s1, s2⟩ := size (by omega) hc hV
  obtain ⟨r, v', h1, h2, h3⟩ := mul_base hx s1 (Nat.le_trans s2 (Nat.mul_le_mul_right _ (by decide)))
  refine ⟨r, v', h1, h2, ?_⟩
  have := h3.trans (hc.mul 1000000000) (by omega) (by omega)
  rw [Nat.mul_right_comm]
  exact this.mono (by omega)
theorem step_add {x y a b V W T k : Nat} (hk : k ≤ 50) (hx : Is x a) (ha : Close k a (V * U)) (hy : Is y b) (hb : Close k b (W * U)) (hT : T = V + W) (hV : T ≤ 4000000000000000000000000000) :
    ∃ r v', Go.floatBits .add .f64 x y = some r ∧ Is r v' ∧ Close (k + 2) v' (T * U) := by
  subst hT
  have hc : Close k (a + b) ((V + W) * U) := by rw [Nat.add_mul]; exact ha.add hb
  obtain ⟨s1, s2⟩ := size (by omega) hc hV
  obtain ⟨r, v', h1, h2, h3⟩ := add_two hx hy s1 (Nat.le_trans s2 (Nat.mul_le_mul_right _ (by decide)))
  exact ⟨r, v', h1, h2, (h3.trans hc (by omega) (by omega)).mono (by omega)⟩

/-- The steps of the guess. -/
theorem guess {a2 a1 a0 b1 b0 T2 T3 S1 S2 T D1 D : Nat} (h2 : a2 < 1000000000) (h1 : a1 < 1000000000) (h0 : a0 < 1000000000) (g1 : b1 < 1000000000) (g0 : b0 < 1000000000) (hb : 0 < b1)
    (e2 : T2 = a2 * 1000000000) (e3 : T3 = T2 * 1000000000) (e4 : S1 = a1 * 1000000000) (e5 : S2 = T3 + S1) (e6 : T = S2 + a0) (f1 : D1 = b1 * 1000000000) (f2 : D = D1 + b0) (hTD : D ≤ T) (hT : T ≤ 2000000000 * D) :
    ∃ t2 t3 s1 s2 top d1 by_ q v : Nat, Go.floatBits .mul .f64 (fl a2) BW = some t2 ∧ Go.floatBits .mul .f64 t2 BW = some t3 ∧ Go.floatBits .mul .f64 (fl a1) BW = some s1 ∧
      Go.floatBits .add .f64 t3 s1 = some s2 ∧ Go.floatBits .add .f64 s2 (fl a0) = some top ∧ Go.floatBits .mul .f64 (fl b1) BW = some d1 ∧ Go.floatBits .add .f64 d1 (fl b0) = some by_ ∧
      Go.floatBits .quo .f64 top by_ = some q ∧ Go.floatToIntVal .f64 q .i64 = some ((v / U : Nat) : Int) ∧ Close 20 (v * D) (T * U) := by
  have hU := U_pos
  have l2 : T2 ≤ 1000000000000000000 := by omega
  have l3 : T3 ≤ 1000000000000000000000000000 := by omega
  have l4 : S1 ≤ 1000000000000000000 := by omega
  have l5 : S2 ≤ 2000000000000000000000000000 := by omega
  have l6 : T ≤ 4000000000000000000000000000 := by omega
  have l7 : D ≤ 4000000000000000000000000000 := by omega
  have l8 : 1000000000 ≤ D := by omega
  have m2 : a2 ≤ 1000000000000000000 := by omega
  have m1 : a1 ≤ 1000000000000000000 := by omega
  have n1 : b1 ≤ 1000000000000000000 := by omega
  have l9 : S2 ≤ 4000000000000000000000000000 := by omega
  obtain ⟨va2, i1, c1⟩ := step_int a2 h2
  obtain ⟨t2, vt2, o2, i2, c2⟩ := step_mul (by decide) i1 c1 m2 e2
  obtain ⟨t3, vt3, o3, i3, c3⟩ := step_mul (by decide) i2 c2 l2 e3
  obtain ⟨va1, i4, c4⟩ := step_int a1 h1
  obtain ⟨s1, vs1, o5, i5, c5⟩ := step_mul (by decide) i4 c4 m1 e4
  obtain ⟨s2, vs2, o6, i6, c6⟩ := step_add (by decide) i3 c3 i5 (c5.mono (by decide)) e5 l9
  obtain ⟨va0, i7, c7⟩ := step_int a0 h0
  obtain ⟨top, vtop, o8, i8, c8⟩ := step_add (by decide) i6 c6 i7 (c7.mono (by decide)) e6 l6
  obtain ⟨vb1, i9, c9⟩ := step_int b1 g1
  obtain ⟨d1, vd1, o10, i10, c10⟩ := step_mul (by decide) i9 c9 n1 f1
  obtain ⟨vb0, i11, c11⟩ := step_int b0 g0
  obtain ⟨by_, vby, o12, i12, c12⟩ := step_add (by decide) i10 c10 i11 (c11.mono (by decide)) f2 l7
  obtain ⟨p1, p2⟩ := small_of_close (by decide) c8
  obtain ⟨p3, p4⟩ := small_of_close (by decide) c12
  have hTD' := Nat.mul_le_mul_right U hTD
  have hT' := Nat.mul_le_mul_right U hT
  have hDU := Nat.mul_le_mul_right U l8
  have hTU := Nat.mul_le_mul_right U l6
  have hDU2 := Nat.mul_le_mul_right U l7
  rw [Nat.mul_assoc] at hT'
  clear e2 e3 e4 e5 e6 f1 f2 l2 l3 l4 l5 l9 m2 m1 n1 h2 h1 h0 g1 g0 hb
  have hch : ∀ {q v}, Go.floatBits .quo .f64 top by_ = some q ∧ Is q v ∧ Close 4 (v * vby) (vtop * U) → Close 20 (v * D) (T * U) ∧ v < 2 ^ 62 * U := by
    rintro q v ⟨o13, i13, c13⟩
    have hch := chain (c8.mono (by decide)) (c12.mono (by decide)) c13
    obtain ⟨p5, _⟩ := small_of_close (by decide) hch
    refine ⟨hch, Nat.lt_of_le_of_lt (m := 4000000000 * U) ?_ (Nat.mul_lt_mul_of_pos_right (by decide) hU)⟩
    refine Nat.le_of_mul_le_mul_right (c := D) ?_ (by omega)
    refine Nat.le_trans p5 ?_
    have : 4000000000 * U * D = 4000000000 * (D * U) := by rw [Nat.mul_assoc, Nat.mul_comm U]
    rw [this]
    generalize T * U = tu at *
    generalize D * U = du at *
    omega
  obtain ⟨q, v, o13, i13, c13⟩ := quot i8 i12
    (by generalize T * U = tu at *; generalize D * U = du at *; omega)
    (by
      refine Nat.le_trans (m := 8000000000000000000000000000 * U) ?_ (Nat.mul_le_mul_right _ (by decide))
      generalize T * U = tu at *
      generalize U = u at *
      omega)
    (by generalize T * U = tu at *; generalize D * U = du at *; omega)
    (by
      refine Nat.le_trans (m := 8000000000000000000000000000 * U) ?_ (Nat.mul_le_mul_right _ (by decide))
      generalize T * U = tu at *
      generalize D * U = du at *
      generalize U = u at *
      omega)
    (by
      refine Nat.le_trans (m := vtop * 4) ?_ (Nat.mul_le_mul_left _ (by decide))
      generalize T * U = tu at *
      generalize D * U = du at *
      omega)
    (by
      refine Nat.le_trans (m := vby * 8000000000) ?_ (Nat.mul_le_mul_left _ (by decide))
      generalize T * U = tu at *
      generalize D * U = du at *
      omega)
  obtain ⟨k1, k2⟩ := hch ⟨o13, i13, c13⟩
  exact ⟨t2, t3, s1, s2, top, d1, by_, q, v, o2, o3, o5, o6, o8, o10, o12, o13, to_int i13 k2, k1⟩

open Pl
/-- The value of a list above its lowest limbs, cut. -/
theorem top_bounds {a : List Int} {n : Nat} (ha : okL a) (k : Nat) (hv : val a = n) (T : Nat) (hT : val (a.drop k) = T) : ∃ P : Nat, 0 < P ∧ (P : Int) = bp k ∧ T * P ≤ n ∧ n < (T + 1) * P := by
  obtain ⟨P, hP⟩ := Int.eq_ofNat_of_zero_le (Int.le_of_lt (bp_pos k))
  have hp := bp_pos k
  refine ⟨P, by omega, hP.symm, ?_, ?_⟩
  · have h := val_take_drop a k
    rcases Nat.lt_or_ge k a.length with hk | hk
    · have hl : (a.take k).length = k := by simp; omega
      rw [hl, hv, hT, hP] at h
      have h0 := val_nonneg (okL_take ha k)
      have : (T : Int) * P ≤ n := by rw [Int.mul_comm]; omega
      exact_mod_cast this
    · rw [List.drop_eq_nil_of_le hk, val_nil] at hT
      have : T = 0 := by omega
      subst this
      omega
  · have h := val_take_drop a k
    rcases Nat.lt_or_ge k a.length with hk | hk
    · have hl : (a.take k).length = k := by simp; omega
      rw [hl, hv, hT, hP] at h
      have h0 := val_lt (okL_take ha k)
      rw [hl, hP] at h0
      have : (n : Int) < ((T : Int) + 1) * P := by rw [Int.add_mul, Int.mul_comm (T : Int)]; omega
      exact_mod_cast this
    · rw [List.drop_eq_nil_of_le hk, val_nil] at hT
      have : T = 0 := by omega
      subst this
      have h0 := val_lt ha
      have := bp_le hk
      have : (n : Int) < P := by omega
      have : n < P := by exact_mod_cast this
      omega

theorem val_drop3 {l : List Int} {k : Nat} (hl : l.length ≤ k + 3) : val (l.drop k) = nth l k + B * (nth l (k + 1) + B * nth l (k + 2)) := by
  rw [val_drop_any, val_drop_any l (k + 1), val_drop_any l (k + 1 + 1), List.drop_eq_nil_of_le (by omega), val_nil]
  simp
theorem val_drop2 {l : List Int} {k : Nat} (hl : l.length ≤ k + 2) : val (l.drop k) = nth l k + B * nth l (k + 1) := by
  rw [val_drop_any, val_drop_any l (k + 1), List.drop_eq_nil_of_le (by omega), val_nil]
  simp

/-- All that the guess of a digit needs. -/
structure DigitSetup (A N : Nat) (k : Nat) (a2 a1 a0 b1 b0 T2 T3 S1 S2 T D1 D : Nat) : Prop where
  len : (limbs A).length ≤ (limbs N).length + 1
  lenN : (limbs N).length = k + 2
  x2 : nth (limbs A) (k + 2) = a2
  x1 : nth (limbs A) (k + 1) = a1
  x0 : nth (limbs A) k = a0
  y1 : nth (limbs N) (k + 1) = b1
  y0 : nth (limbs N) k = b0
  h2 : a2 < 1000000000
  h1 : a1 < 1000000000
  h0 : a0 < 1000000000
  g1 : b1 < 1000000000
  g0 : b0 < 1000000000
  hb : 0 < b1
  e2 : T2 = a2 * 1000000000
  e3 : T3 = T2 * 1000000000
  e4 : S1 = a1 * 1000000000
  e5 : S2 = T3 + S1
  e6 : T = S2 + a0
  f1 : D1 = b1 * 1000000000
  f2 : D = D1 + b0
  hTD : D ≤ T
  hT : T ≤ 2000000000 * D
  win : ∀ v, Close 20 (v * D) (T * U) → A / N ≤ v / U + 2000 ∧ v / U ≤ A / N + 2000 ∧ v / U ≤ 1000000003

theorem digit_setup {A N : Nat} (hN : 2 ≤ (limbs N).length) (h1 : N ≤ A) (h2 : A < 1000000000 * N) : ∃ k a2 a1 a0 b1 b0 T2 T3 S1 S2 T D1 D, DigitSetup A N k a2 a1 a0 b1 b0 T2 T3 S1 S2 T D1 D := by
  obtain ⟨k, hk⟩ : ∃ k, (limbs N).length = k + 2 := ⟨(limbs N).length - 2, by omega⟩
  have ca := canon_limbs A
  have cb := canon_limbs N
  have vA := val_limbs A
  have vN := val_limbs N
  have hla : (limbs A).length ≤ k + 3 := by
    rw [limbs_length_le, show k + 3 = (k + 2) + 1 from rfl, bp_succ]
    have := val_lt cb.1
    rw [vN, hk] at this
    simp only [B]
    omega
  have o2 := nth_ok ca.1 (k + 2)
  have o1 := nth_ok ca.1 (k + 1)
  have o0 := nth_ok ca.1 k
  have q1 := nth_ok cb.1 (k + 1)
  have q0 := nth_ok cb.1 k
  have hb1 := cb.2 (by omega)
  rw [hk, show k + 2 - 1 = k + 1 from rfl] at hb1
  have dA := val_drop3 hla
  have dN := val_drop2 (l := limbs N) (k := k) (by omega)
  simp only [B] at o2 o1 o0 q1 q0 dA dN
  obtain ⟨a2, ha2⟩ := Int.eq_ofNat_of_zero_le o2.1
  obtain ⟨a1, ha1⟩ := Int.eq_ofNat_of_zero_le o1.1
  obtain ⟨a0, ha0⟩ := Int.eq_ofNat_of_zero_le o0.1
  obtain ⟨b1, hb1'⟩ := Int.eq_ofNat_of_zero_le q1.1
  obtain ⟨b0, hb0⟩ := Int.eq_ofNat_of_zero_le q0.1
  rw [ha2] at o2 dA
  rw [ha1] at o1 dA
  rw [ha0] at o0 dA
  rw [hb1'] at q1 dN hb1
  rw [hb0] at q0 dN
  obtain ⟨T2, e2⟩ : ∃ T2, T2 = a2 * 1000000000 := ⟨_, rfl⟩
  obtain ⟨T3, e3⟩ : ∃ T3, T3 = T2 * 1000000000 := ⟨_, rfl⟩
  obtain ⟨S1, e4⟩ : ∃ S1, S1 = a1 * 1000000000 := ⟨_, rfl⟩
  obtain ⟨S2, e5⟩ : ∃ S2, S2 = T3 + S1 := ⟨_, rfl⟩
  obtain ⟨T, e6⟩ : ∃ T, T = S2 + a0 := ⟨_, rfl⟩
  obtain ⟨D1, f1⟩ : ∃ D1, D1 = b1 * 1000000000 := ⟨_, rfl⟩
  obtain ⟨D, f2⟩ : ∃ D, D = D1 + b0 := ⟨_, rfl⟩
  have dT : val ((limbs A).drop k) = (T : Int) := by rw [dA]; omega
  have dD : val ((limbs N).drop k) = (D : Int) := by rw [dN]; omega
  obtain ⟨P, hP, hPk, t1, t2⟩ := top_bounds ca.1 k vA T dT
  obtain ⟨P', hP', hPk', t3, t4⟩ := top_bounds cb.1 k vN D dD
  obtain rfl : P = P' := by
    have : (P : Int) = P' := by rw [hPk', hPk]
    exact_mod_cast this
  have hD : 1000000000 ≤ D := by omega
  have hTD : D ≤ T := by
    have : D * P < (T + 1) * P := Nat.lt_of_le_of_lt t3 (Nat.lt_of_le_of_lt h1 t2)
    have := Nat.lt_of_mul_lt_mul_right this
    omega
  have hT : T ≤ 2000000000 * D := by
    have : T * P < 1000000000 * (D + 1) * P := by
      refine Nat.lt_of_le_of_lt t1 (Nat.lt_trans h2 ?_)
      rw [Nat.mul_assoc]
      exact Nat.mul_lt_mul_of_pos_left t4 (by omega)
    have := Nat.lt_of_mul_lt_mul_right this
    omega
  exact ⟨k, a2, a1, a0, b1, b0, T2, T3, S1, S2, T, D1, D, by omega, hk, ha2, ha1, ha0, hb1', hb0, by omega, by omega, by omega, by omega, by omega, by omega, e2, e3, e4, e5, e6, f1, f2, hTD, hT,
    fun v hv => window hP t1 t2 t3 t4 hD h2 hv⟩

end Go.Proofs.YtnpfmmdekjjnjaaGreatDoor.Fl

/- Plain laws: decimal texts, cutting and splitting. -/
namespace Go.Proofs.YtnpfmmdekjjnjaaGreatDoor.Pl
open Go.Lib

theorem snocRec {p : List UInt8 → Prop} (h0 : p []) (h1 : ∀ s c, p s → p (s ++ [c])) (s : List UInt8) : p s := by
  have key : ∀ t : List UInt8, p t.reverse := by
    intro t
    induction t with
    | nil => exact h0
    | cons c t ih => rw [List.reverse_cons]; exact h1 _ _ ih
  have := key s.reverse
  rwa [List.reverse_reverse] at this

/-- Digits alone. -/
def digs (s : List UInt8) : Prop := ∀ c ∈ s, 48 ≤ c.toNat ∧ c.toNat ≤ 57
/-- The number that digits spell. -/
def num (s : List UInt8) : Nat := s.foldl (fun a c => 10 * a + (c.toNat - 48)) 0
theorem num_from (s : List UInt8) (a : Nat) : s.foldl (fun a c => 10 * a + (c.toNat - 48)) a = a * 10 ^ s.length + num s := by
  induction s generalizing a with
  | nil => simp [num]
  | cons c s ih =>
    unfold num
    rw [List.foldl_cons, List.foldl_cons, ih, ih (10 * 0 + (c.toNat - 48)), List.length_cons, Nat.pow_succ, Nat.add_mul]
    rw [show 10 * a * 10 ^ s.length = a * (10 ^ s.length * 10) by rw [Nat.mul_comm 10 a, Nat.mul_assoc, Nat.mul_comm 10]]
    simp only [Nat.mul_zero, Nat.zero_add, Nat.add_assoc]
theorem num_append (s t : List UInt8) : num (s ++ t) = num s * 10 ^ t.length + num t := by
  unfold num
  rw [List.foldl_append, num_from]
  rfl
theorem num_nil : num [] = 0 := rfl
theorem num_snoc (s : List UInt8) (c : UInt8) : num (s ++ [c]) = 10 * num s + (c.toNat - 48) := by
  rw [num_append]
  simp [num, Nat.mul_comm]
theorem num_one (c : UInt8) : num [c] = c.toNat - 48 := by simp [num]
theorem digs_append {s t : List UInt8} : digs (s ++ t) ↔ digs s ∧ digs t := by
  constructor
  · exact fun h => ⟨fun c hc => h c (List.mem_append.2 (.inl hc)), fun c hc => h c (List.mem_append.2 (.inr hc))⟩
  · rintro ⟨h1, h2⟩ c hc
    rcases List.mem_append.1 hc with h | h
    · exact h1 c h
    · exact h2 c h
theorem digs_take {s : List UInt8} (h : digs s) (k : Nat) : digs (s.take k) := fun c hc => h c (List.mem_of_mem_take hc)
theorem digs_drop {s : List UInt8} (h : digs s) (k : Nat) : digs (s.drop k) := fun c hc => h c (List.mem_of_mem_drop hc)
theorem num_lt {s : List UInt8} (h : digs s) : num s < 10 ^ s.length := by
  induction s using snocRec with
  | h0 => simp [num]
  | h1 s c ih =>
    have h1 := ih (digs_append.1 h).1
    have h2 := (digs_append.1 h).2 c (by simp)
    rw [num_snoc, List.length_append, List.length_singleton, Nat.pow_succ]
    omega

/-- A numeral as it is written: no zero ahead but in "0". -/
def canonN (s : List UInt8) : Prop := s ≠ [] ∧ digs s ∧ (1 < s.length → s.head? ≠ some 48)

theorem ofNat_toNat {k : Nat} (h : k < 10) : (UInt8.ofNat (48 + k)).toNat = 48 + k := by
  rw [UInt8.toNat_ofNat']; omega
theorem decDigits_ne (n : Nat) : decDigits n ≠ [] := by
  rw [decDigits]; split <;> simp
theorem decDigits_digs (n : Nat) : digs (decDigits n) := by
  induction n using Nat.strongRecOn with
  | _ n ih =>
    rw [decDigits]
    split
    · intro c hc
      rw [List.mem_singleton] at hc
      subst hc
      rw [ofNat_toNat (by assumption)]; omega
    · refine digs_append.2 ⟨ih _ (by omega), fun c hc => ?_⟩
      rw [List.mem_singleton] at hc
      subst hc
      rw [ofNat_toNat (by omega)]; omega
theorem num_decDigits (n : Nat) : num (decDigits n) = n := by
  induction n using Nat.strongRecOn with
  | _ n ih =>
    rw [decDigits]
    split
    · rw [num_one, ofNat_toNat (by assumption)]; omega
    · rw [num_snoc, ih _ (by omega), ofNat_toNat (by omega)]; omega
theorem decDigits_inj {m n : Nat} (h : decDigits m = decDigits n) : m = n := by
  rw [← num_decDigits m, h, num_decDigits]
theorem decDigits_head (n : Nat) (h : 0 < n) : (decDigits n).head? ≠ some 48 := by
  induction n using Nat.strongRecOn with
  | _ n ih =>
    rw [decDigits]
    split
    · intro e
      simp only [List.head?_cons, Option.some.injEq] at e
      have := congrArg UInt8.toNat e
      rw [ofNat_toNat (by assumption)] at this
      simp at this
      omega
    · rw [List.head?_append]
      cases hd : (decDigits (n / 10)).head? with
      | none => exact absurd (List.head?_eq_none_iff.1 hd) (decDigits_ne _)
      | some c =>
        have := ih (n / 10) (by omega) (by omega)
        rw [hd] at this
        simpa using this
theorem decDigits_canon (n : Nat) : canonN (decDigits n) := by
  refine ⟨decDigits_ne n, decDigits_digs n, fun h => ?_⟩
  rcases Nat.eq_zero_or_pos n with h0 | h0
  · subst h0
    rw [decDigits] at h
    simp at h
  · exact decDigits_head n h0
theorem byte_of_digit {c : UInt8} (h : 48 ≤ c.toNat ∧ c.toNat ≤ 57) : UInt8.ofNat (48 + (c.toNat - 48)) = c := by
  rw [show 48 + (c.toNat - 48) = c.toNat by omega, UInt8.ofNat_toNat]
theorem decDigits_num {s : List UInt8} (h : canonN s) : decDigits (num s) = s := by
  obtain ⟨h1, h2, h3⟩ := h
  induction s using snocRec with
  | h0 => exact absurd rfl h1
  | h1 s c ih =>
    have hc := (digs_append.1 h2).2 c (by simp)
    by_cases hs : s = []
    · subst hs
      rw [List.nil_append, num_one, decDigits, dif_pos (by omega), byte_of_digit hc]
    · have hl : 0 < s.length := List.length_pos_iff.2 hs
      have hh := h3 (by rw [List.length_append, List.length_singleton]; omega)
      have hh' : s.head? ≠ some 48 := by
        cases s with
        | nil => exact absurd rfl hs
        | cons a s => simpa using hh
      have e := ih hs (digs_append.1 h2).1 (fun _ => hh')
      have hp : 0 < num s := by
        rcases Nat.eq_zero_or_pos (num s) with h0 | h0
        · rw [h0, decDigits, dif_pos (by decide)] at e
          rw [← e] at hh'
          exact absurd rfl hh'
        · exact h0
      rw [num_snoc, decDigits, dif_neg (by omega), show (10 * num s + (c.toNat - 48)) / 10 = num s by omega, e, show (10 * num s + (c.toNat - 48)) % 10 = c.toNat - 48 by omega, byte_of_digit hc]

/-- A numeral and nine more digits. -/
def padded (n w : Nat) : List UInt8 := List.replicate (w - (decDigits n).length) 48 ++ decDigits n
theorem num_zeros (k : Nat) (s : List UInt8) : num (List.replicate k 48 ++ s) = num s := by
  induction k with
  | zero => rfl
  | succ k ih =>
    rw [List.replicate_succ, List.cons_append, ← List.singleton_append, num_append, ih, num_one]
    simp
theorem digs_zeros (k : Nat) : digs (List.replicate k 48) := by
  intro c hc
  rw [List.eq_of_mem_replicate hc]
  decide
theorem decDigits_len {n k : Nat} (hk : 0 < k) (h : n < 10 ^ k) : (decDigits n).length ≤ k := by
  induction k generalizing n with
  | zero => omega
  | succ k ih =>
    rw [decDigits]
    split
    · simp
    · rw [List.length_append, List.length_singleton]
      rcases Nat.eq_zero_or_pos k with h0 | h0
      · subst h0; simp at h; omega
      · have := ih (n := n / 10) h0 (by rw [Nat.pow_succ] at h; omega)
        omega
theorem decDigits_len_lt (n : Nat) : n < 10 ^ (decDigits n).length := by
  have := num_lt (decDigits_digs n)
  rwa [num_decDigits] at this
theorem padded_len {n w : Nat} (hw : 0 < w) (h : n < 10 ^ w) : (padded n w).length = w := by
  have := decDigits_len hw h
  unfold padded
  rw [List.length_append, List.length_replicate]
  omega
theorem decDigits_join {a b w : Nat} (ha : 0 < a) (hw : 0 < w) (hb : b < 10 ^ w) : decDigits (a * 10 ^ w + b) = decDigits a ++ padded b w := by
  have e : num (decDigits a ++ padded b w) = a * 10 ^ w + b := by
    rw [num_append, padded_len hw hb, num_decDigits]
    unfold padded
    rw [num_zeros, num_decDigits]
  rw [← e]
  refine decDigits_num ⟨by simp [decDigits_ne], digs_append.2 ⟨decDigits_digs a, digs_append.2 ⟨digs_zeros _, decDigits_digs b⟩⟩, fun _ => ?_⟩
  rw [List.head?_append]
  have := decDigits_head a ha
  cases hd : (decDigits a).head? with
  | none => exact absurd (List.head?_eq_none_iff.1 hd) (decDigits_ne _)
  | some c => rw [hd] at this; simpa using this

/-! Cutting. -/
theorem index_none {c : UInt8} {s : List UInt8} (h : c ∉ s) : index s [c] = -1 := by
  induction s with
  | nil => rfl
  | cons b l ih =>
    have hb : ([c].isPrefixOf (b :: l)) = false := by
      simp only [List.isPrefixOf, Bool.and_true, beq_eq_false_iff_ne]
      exact fun e => h (by rw [e]; exact List.mem_cons_self)
    have := ih fun hc => h (List.mem_cons_of_mem _ hc)
    rw [index, hb, this]
    rfl
theorem index_hit {c : UInt8} {a : List UInt8} (h : c ∉ a) (b : List UInt8) : index (a ++ c :: b) [c] = a.length := by
  induction a with
  | nil => simp [index, List.isPrefixOf]
  | cons x a ih =>
    have hb : ([c].isPrefixOf (x :: (a ++ c :: b))) = false := by
      simp only [List.isPrefixOf, Bool.and_true, beq_eq_false_iff_ne]
      exact fun e => h (by rw [e]; exact List.mem_cons_self)
    have := ih fun hc => h (List.mem_cons_of_mem _ hc)
    rw [List.cons_append, index, hb, this, if_neg (by decide), if_neg (by simp), List.length_cons]
    omega
theorem cut_none {c : UInt8} {s : List UInt8} (h : c ∉ s) : cut s [c] = (s, [], false) := by
  unfold cut
  rw [index_none h, if_neg (by decide)]
theorem cut_hit {c : UInt8} {a : List UInt8} (h : c ∉ a) (b : List UInt8) : cut (a ++ c :: b) [c] = (a, b, true) := by
  unfold cut
  rw [index_hit h, if_pos (by omega)]
  simp
/-- What a text is by the first 'c' in it. -/
theorem cut_cases (c : UInt8) (s : List UInt8) : (c ∉ s ∧ cut s [c] = (s, [], false)) ∨ ∃ a b, c ∉ a ∧ s = a ++ c :: b ∧ cut s [c] = (a, b, true) := by
  by_cases h : c ∈ s
  · right
    induction s with
    | nil => cases h
    | cons x s ih =>
      by_cases e : x = c
      · subst e
        exact ⟨[], s, by simp, rfl, cut_hit (a := []) (by simp) s⟩
      · have hs : c ∈ s := by
          rcases List.mem_cons.1 h with h | h
          · exact absurd h.symm e
          · exact h
        obtain ⟨a, b, h1, h2, _⟩ := ih hs
        have h3 : c ∉ x :: a := by
          intro hc
          rcases List.mem_cons.1 hc with hc | hc
          · exact e hc.symm
          · exact h1 hc
        exact ⟨x :: a, b, h3, by rw [h2]; rfl, by rw [h2]; exact cut_hit (a := x :: a) h3 b⟩
  · exact .inl ⟨h, cut_none h⟩

/-- The pieces of a text between its 'c's. -/
def split1 (c : UInt8) : List UInt8 → List (List UInt8)
  | [] => [[]]
  | b :: l => if b = c then [] :: split1 c l else match split1 c l with
    | [] => [[b]]
    | x :: xs => (b :: x) :: xs
theorem split1_none {c : UInt8} {s : List UInt8} (h : c ∉ s) : split1 c s = [s] := by
  induction s with
  | nil => rfl
  | cons b l ih =>
    have := ih fun hc => h (List.mem_cons_of_mem _ hc)
    rw [split1, if_neg (fun e => h (by rw [e]; exact List.mem_cons_self)), this]
theorem split1_hit {c : UInt8} {a : List UInt8} (h : c ∉ a) (b : List UInt8) : split1 c (a ++ c :: b) = a :: split1 c b := by
  induction a with
  | nil => rw [List.nil_append, split1, if_pos rfl]
  | cons x l ih =>
    have := ih fun hc => h (List.mem_cons_of_mem _ hc)
    rw [List.cons_append, split1, if_neg (fun e => h (by rw [e]; exact List.mem_cons_self)), this]
theorem split1_ne (c : UInt8) (s : List UInt8) : split1 c s ≠ [] := by
  rcases cut_cases c s with ⟨h, _⟩ | ⟨a, b, h1, h2, _⟩
  · rw [split1_none h]; simp
  · rw [h2, split1_hit h1]; simp

end Go.Proofs.YtnpfmmdekjjnjaaGreatDoor.Pl

/- Plain laws: a natural number's text, limb by limb. -/
namespace Go.Proofs.YtnpfmmdekjjnjaaGreatDoor.Pl
open Go.Lib

theorem bp_pow (k : Nat) : bp k = ((10 ^ (9 * k) : Nat) : Int) := by
  induction k with
  | zero => rfl
  | succ k ih =>
    rw [bp_succ, ih, show 9 * (k + 1) = 9 * k + 9 by omega, Nat.pow_add]
    unfold B
    rw [show (10 : Nat) ^ 9 = 1000000000 by decide]
    rw [Int.natCast_mul, Int.mul_comm]
    rfl

/-- What the limbs from i on are worth. -/
def up (n i : Nat) : Nat := (val ((limbs n).drop i)).toNat
theorem up_val (n i : Nat) : (up n i : Int) = val ((limbs n).drop i) := Int.toNat_of_nonneg (val_nonneg (okL_drop (okL_limbs n) i))
theorem up_zero (n : Nat) : up n 0 = n := by
  have := up_val n 0
  rw [List.drop_zero, val_limbs] at this
  omega
theorem up_step {n i : Nat} (h : i < (limbs n).length) : (up n i : Int) = nth (limbs n) i + 1000000000 * up n (i + 1) := by
  rw [up_val, up_val, val_drop_nth h]; rfl
theorem up_end {n i : Nat} (h : (limbs n).length ≤ i) : up n i = 0 := by
  unfold up
  rw [List.drop_eq_nil_of_le h]; rfl
theorem up_le (n : Nat) : ∀ i, up n i ≤ n
  | 0 => by rw [up_zero]; exact Nat.le_refl _
  | i + 1 => by
    rcases Nat.lt_or_ge i (limbs n).length with h | h
    · have h1 := up_step h
      have h2 := up_le n i
      have h3 := (nth_ok (okL_limbs n) i).1
      omega
    · rw [up_end (by omega)]; exact Nat.zero_le _
theorem up_pos {n i : Nat} (h : i < (limbs n).length) : 0 < up n i := by
  have hc : canon ((limbs n).drop i) := by
    refine ⟨okL_drop (okL_limbs n) i, fun hl => ?_⟩
    rw [List.length_drop] at hl ⊢
    rw [nth_drop]
    have := (canon_limbs n).2 (by omega)
    rwa [show i + ((limbs n).length - i - 1) = (limbs n).length - 1 by omega]
  have := canon_val_pos hc (by rw [List.length_drop]; omega)
  have := up_val n i
  omega
/-- The limb i as a number. -/
def lim (n i : Nat) : Nat := (nth (limbs n) i).toNat
theorem lim_eq (n i : Nat) : nth (limbs n) i = (lim n i : Int) := (Int.toNat_of_nonneg (nth_ok (okL_limbs n) i).1).symm
theorem lim_lt (n i : Nat) : lim n i < 1000000000 := by
  have := (nth_ok (okL_limbs n) i).2
  rw [lim_eq] at this
  unfold B at this
  omega
theorem fmt_step {n i : Nat} (h : i + 1 < (limbs n).length) : decDigits (up n (i + 1)) ++ padded (lim n i) 9 = decDigits (up n i) := by
  have h1 := up_step (n := n) (i := i) (by omega)
  rw [lim_eq] at h1
  rw [← decDigits_join (up_pos h) (by decide) (by have := lim_lt n i; omega)]
  congr 1
  omega
theorem fmt_start {n : Nat} (h : 0 < n) : lim n ((limbs n).length - 1) = up n ((limbs n).length - 1) := by
  have hl := limbs_length_pos.2 h
  have h1 := up_step (n := n) (i := (limbs n).length - 1) (by omega)
  rw [lim_eq, up_end (n := n) (i := (limbs n).length - 1 + 1) (by omega)] at h1
  omega
theorem fmt_len {n : Nat} (i : Nat) (h : 0 < n) : (decDigits (up n i)).length ≤ 9 * (limbs n).length := by
  have hl := limbs_length_pos.2 h
  have h1 := val_lt (okL_limbs n)
  rw [val_limbs, bp_pow] at h1
  exact decDigits_len (by omega) (Nat.lt_of_le_of_lt (up_le n i) (by omega))
theorem dec_len {n : Nat} : (decDigits n).length ≤ 9 * (limbs n).length + 1 := by
  rcases Nat.eq_zero_or_pos n with h | h
  · subst h
    rw [decDigits]; simp
  · have := fmt_len 0 h
    rw [up_zero] at this
    omega
theorem dec_zero : decDigits 0 = [48] := by rw [decDigits]; rfl

end Go.Proofs.YtnpfmmdekjjnjaaGreatDoor.Pl

/- Plain laws: reading a natural number. -/
namespace Go.Proofs.YtnpfmmdekjjnjaaGreatDoor.Pl
open Go.Lib

/-- What the loop keeps: the chunks behind e are in out. -/
def ChunkInv (s : List UInt8) (out : List Int) (e : Nat) : Prop := okL out ∧ (num s : Int) = val out + bp out.length * num (s.take e)
theorem chunk_start (s : List UInt8) : ChunkInv s [] s.length := by
  refine ⟨okL_nil, ?_⟩
  rw [val_nil, List.take_length]
  simp [bp_zero]
/-- The number of a piece. -/
def piece (s : List UInt8) (a b : Nat) : Nat := num ((s.drop a).take (b - a))
theorem piece_lt {s : List UInt8} {a b : Nat} (h : digs s) (hab : b - a ≤ 9) : piece s a b < 1000000000 := by
  have h1 := num_lt (digs_take (digs_drop h a) (b - a))
  have h2 : ((s.drop a).take (b - a)).length ≤ 9 := by rw [List.length_take]; omega
  have h3 : 10 ^ ((s.drop a).take (b - a)).length ≤ 10 ^ 9 := Nat.pow_le_pow_right (by decide) h2
  unfold piece
  omega
theorem take_split {s : List UInt8} {a b : Nat} (h : a ≤ b) : s.take b = s.take a ++ (s.drop a).take (b - a) := by
  conv => lhs; rw [← List.take_append_drop a (s.take b)]
  rw [List.take_take, Nat.min_eq_left h, List.drop_take]
theorem chunk_step {s : List UInt8} {out : List Int} {e : Nat} (hd : digs s) (h : ChunkInv s out e) (he : e ≤ s.length) (h9 : 9 ≤ e) : ChunkInv s (out ++ [(piece s (e - 9) e : Int)]) (e - 9) := by
  have hp := piece_lt (a := e - 9) (b := e) hd (by omega)
  refine ⟨okL_snoc h.1 (by omega) (by unfold B; omega), ?_⟩
  rw [h.2, take_split (s := s) (a := e - 9) (b := e) (by omega), num_append, val_snoc, List.length_append, List.length_singleton, bp_add]
  have hl : ((s.drop (e - 9)).take (e - (e - 9))).length = 9 := by rw [List.length_take, List.length_drop]; omega
  rw [hl]
  unfold piece
  generalize num (List.take (e - (e - 9)) (List.drop (e - 9) s)) = x
  generalize num (List.take (e - 9) s) = y
  generalize bp out.length = z
  have : bp 1 = 1000000000 := rfl
  rw [this, Int.natCast_add, Int.natCast_mul, show ((10 ^ 9 : Nat) : Int) = 1000000000 by decide, Int.mul_add, Int.mul_assoc, Int.mul_comm (y : Int) 1000000000]
  omega
theorem chunk_last {s : List UInt8} {out : List Int} {e : Nat} (hd : digs s) (h : ChunkInv s out e) (_he : e ≤ s.length) (h9 : e < 9) : okL (out ++ [(piece s 0 e : Int)]) ∧ (num s : Int) = val (out ++ [(piece s 0 e : Int)]) := by
  have hp := piece_lt (a := 0) (b := e) hd (by omega)
  refine ⟨okL_snoc h.1 (by omega) (by unfold B; omega), ?_⟩
  rw [h.2, val_snoc]
  simp [piece]
theorem chunk_end {s : List UInt8} {out : List Int} (h : ChunkInv s out 0) : (num s : Int) = val out := by
  rw [h.2]
  simp [num]
theorem piece_zero (s : List UInt8) (a : Nat) : piece s a a = 0 := by
  unfold piece
  rw [Nat.sub_self, List.take_zero]; rfl
theorem piece_snoc {s : List UInt8} {a i : Nat} (h1 : a ≤ i) (h2 : i < s.length) : piece s a (i + 1) = 10 * piece s a i + ((s.getD i 0).toNat - 48) := by
  unfold piece
  have : (s.drop a).take (i + 1 - a) = (s.drop a).take (i - a) ++ [s.getD i 0] := by
    rw [show i + 1 - a = (i - a) + 1 by omega, List.take_add_one, List.getElem?_drop, show a + (i - a) = i by omega]
    simp [List.getD, h2]
  rw [this, num_snoc]
theorem piece_small {s : List UInt8} {a i : Nat} (hd : digs s) (h : i - a ≤ 8) : piece s a i < 100000000 := by
  have h1 := num_lt (digs_take (digs_drop hd a) (i - a))
  have h2 : ((s.drop a).take (i - a)).length ≤ 8 := by rw [List.length_take]; omega
  have h3 : 10 ^ ((s.drop a).take (i - a)).length ≤ 10 ^ 8 := Nat.pow_le_pow_right (by decide) h2
  unfold piece
  omega

end Go.Proofs.YtnpfmmdekjjnjaaGreatDoor.Pl
