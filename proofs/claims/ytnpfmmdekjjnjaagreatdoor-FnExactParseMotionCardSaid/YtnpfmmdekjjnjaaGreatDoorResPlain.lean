/- Results that lie in a cell: a struct and a bool. -/
import Derived.Test.YtnpfmmdekjjnjaaGreatDoorParseNatI
import Derived.Laws.ResultCell
import Derived.Laws.Rows
namespace Go.Proofs.YtnpfmmdekjjnjaaGreatDoor
open Go Go.RowKit Pl

theorem results_row_tmp {P : Program} {fn : Func} {p u : Tmp} {ty : TypeId} (h : fn.results = #[.cell p ty, .tmp u]) (tmps : Array Value) (w : World) (g : Nat) (t : TypeId) (cs : Array Value) (fr : Nat × Nat) (d : TypeDesc)
    (hp : tmps.getD p undef = .pointer (some ⟨g, 0, none⟩)) (hg : w.heap[g]? = some (.cells cs t fr))
    (hu : P.underlying ty = some d) (hd : (match d with | .struct _ | .array _ _ => true | _ => false) = true) (hi : (P.info? ty).map (·.size) = some cs.size) :
    (results fn tmps).run P w = .ok (.tuple #[.agg cs, tmps.getD u undef]) w := by
  rw [results_cell_tmp h, hp]
  simp [asAddr, run_loadVar_row w g t ty cs fr d hg hu hd hi, Result.andThen]

theorem row_frozen {w : World} {g : Nat} {cs : Array Value} {t : TypeId} (h : w.heap[g]? = some (.cells cs t)) (i : Nat) : w.frozen? ⟨g, i, none⟩ = false := Lib.frozen_of_heap h i
theorem row_cell {w : World} {g : Nat} {cs : Array Value} {t : TypeId} (h : w.heap[g]? = some (.cells cs t)) (i : Nat) : w.cell? ⟨g, i, none⟩ = cs[i]? := Lib.cell_of_heap h i
theorem row_set {w : World} {g : Nat} {cs : Array Value} {t : TypeId} (h : w.heap[g]? = some (.cells cs t)) (i : Nat) (x : Value) : (w.setCell ⟨g, i, none⟩ x).heap[g]? = some (.cells (cs.setIfInBounds i x) t) := by
  simp [World.setCell, Array.getElem?_modify, h]
theorem row_on {w w' : World} {g : Nat} {cs : Array Value} {t : TypeId} (h : w.heap[g]? = some (.cells cs t)) (hb : Below w.heap.size w w') : w'.heap[g]? = some (.cells cs t) := by
  rw [hb.block g (Array.getElem?_eq_some_iff.1 h).1]; exact h
theorem row_new (w : World) (cs : Array Value) (t : TypeId) : (w.alloc (.cells cs t)).heap[w.heap.size]? = some (.cells cs t) := heap_alloc_new w _

/-! Which texts are integers. -/
def bigIs (s : List UInt8) (neg : Bool) (n : Nat) : Prop := fmtBig neg n = s ∧ (neg = true → 0 < n) ∧ (limbs n).length ≤ 60

theorem dec_len_gen {n k m : Nat} (hk : 0 < k) (hm : k = 9 * m) : (Lib.decDigits n).length ≤ k ↔ (limbs n).length ≤ m := by
  rw [limbs_length_le, bp_pow, ← hm]
  constructor
  · intro h
    have h1 := decDigits_len_lt n
    have h2 : 10 ^ (Lib.decDigits n).length ≤ 10 ^ k := Nat.pow_le_pow_right (by decide) h
    exact Int.ofNat_lt.2 (Nat.lt_of_lt_of_le h1 h2)
  · intro h
    exact decDigits_len hk (Int.ofNat_lt.1 h)
theorem dec_len_iff {n : Nat} : (Lib.decDigits n).length ≤ 540 ↔ (limbs n).length ≤ 60 := dec_len_gen (by decide) (by decide)
theorem parsable_dec {n : Nat} (h : (limbs n).length ≤ 60) : parsable (Lib.decDigits n) := ⟨decDigits_canon n, dec_len_iff.2 h⟩
theorem parsable_num {s : List UInt8} (h : parsable s) : Lib.decDigits (num s) = s ∧ (limbs (num s)).length ≤ 60 := by
  have h1 := decDigits_num h.1
  refine ⟨h1, dec_len_iff.1 ?_⟩
  rw [h1]; exact h.2
theorem dec_no {n : Nat} {c : UInt8} (hc : c.toNat < 48 ∨ 57 < c.toNat) : c ∉ Lib.decDigits n := by
  intro h
  have := decDigits_digs n c h
  omega
theorem bigIs_neg {t : List UInt8} {neg : Bool} {n : Nat} : bigIs (45 :: t) neg n ↔ neg = true ∧ Lib.decDigits n = t ∧ 0 < n ∧ (limbs n).length ≤ 60 := by
  unfold bigIs fmtBig sgn
  cases neg with
  | false =>
    simp only [Bool.false_eq_true, if_false, List.nil_append, false_and, iff_false, false_implies, true_and]
    rintro ⟨h, _⟩
    exact dec_no (n := n) (c := 45) (by decide) (by rw [h]; exact List.mem_cons_self)
  | true => simp
theorem bigIs_pos {s : List UInt8} (hs : ∀ t, s ≠ 45 :: t) {neg : Bool} {n : Nat} : bigIs s neg n ↔ neg = false ∧ Lib.decDigits n = s ∧ (limbs n).length ≤ 60 := by
  unfold bigIs fmtBig sgn
  cases neg with
  | false => simp
  | true =>
    simp only [if_true, Bool.true_eq_false, false_and, iff_false]
    rintro ⟨h, _⟩
    exact hs _ h.symm
theorem bigIs_inj {s : List UInt8} {a b : Bool} {m n : Nat} (h : bigIs s a m) (k : bigIs s b n) : a = b ∧ m = n := by
  by_cases hs : ∃ t, s = 45 :: t
  · obtain ⟨t, rfl⟩ := hs
    have h := bigIs_neg.1 h
    have k := bigIs_neg.1 k
    exact ⟨h.1.trans k.1.symm, decDigits_inj (h.2.1.trans k.2.1.symm)⟩
  · have hs' : ∀ t, s ≠ 45 :: t := fun t e => hs ⟨t, e⟩
    have h := (bigIs_pos hs').1 h
    have k := (bigIs_pos hs').1 k
    exact ⟨h.1.trans k.1.symm, decDigits_inj (h.2.1.trans k.2.1.symm)⟩
theorem cut45 (s : List UInt8) : (∃ t, s = 45 :: t ∧ Lib.trimPrefix s [45] = t ∧ Lib.hasPrefix s [45] = true) ∨ ((∀ t, s ≠ 45 :: t) ∧ Lib.trimPrefix s [45] = s ∧ Lib.hasPrefix s [45] = false) := by
  cases s with
  | nil => right; exact ⟨by simp, rfl, rfl⟩
  | cons c t =>
    by_cases h : c = 45
    · left
      subst h
      exact ⟨t, rfl, rfl, rfl⟩
    · right
      have hp : Lib.hasPrefix (c :: t) [45] = false := by
        unfold Lib.hasPrefix
        simp only [List.isPrefixOf, Bool.and_true, beq_eq_false_iff_ne]
        exact fun e => h e.symm
      refine ⟨fun u e => h (List.cons.inj e).1, ?_, hp⟩
      unfold Lib.trimPrefix
      rw [hp]; rfl
/-- What ParseBigInt hands back. -/
def ParseBigPost (s : List UInt8) (w : World) (e : Ending) (w' : World) : Prop :=
  Below w.heap.size w w' ∧ ((∃ neg n v, bigIs s neg n ∧ e = .returned (.tuple #[.agg #[.bool neg, v], .bool true]) ∧ OwnR w' w.heap.size w'.heap.size v (limbs n)) ∨
    ((¬ ∃ neg n, bigIs s neg n) ∧ e = .returned (.tuple #[.agg #[.bool false, .slice none 0 0], .bool false])))
theorem OwnR.wide {w : World} {lo lo' hi hi' : Nat} {v : Value} {l : List Int} (h : OwnR w lo hi v l) (h1 : lo' ≤ lo) (h2 : hi ≤ hi') : OwnR w lo' hi' v l := by
  refine ⟨?_, fun g hg => Nat.lt_of_lt_of_le (h.2 g hg) h2⟩
  obtain ⟨h3, h4⟩ := h.1
  refine ⟨h3, ?_⟩
  rcases h4 with ⟨he, h0⟩ | ⟨g, cap, cur, he, hb, hr⟩
  · exact .inl ⟨he, h0⟩
  · exact .inr ⟨g, cap, cur, he, Nat.le_trans h1 hb, hr⟩

theorem grown_set (w : World) (p : Addr) (x : Value) : w.grownBy (w.setCell p x) (some p.block) :=
  ⟨rfl, rfl, rfl, by rw [size_setCell]; exact Nat.le_refl _, fun k _ hne => Below.heap_setCell w p x k (fun e => hne (by rw [e]))⟩
theorem OwnR.set {w : World} {lo hi : Nat} {v : Value} {l : List Int} (h : OwnR w lo hi v l) {p : Addr} (hp : p.block < lo) (x : Value) : OwnR (w.setCell p x) lo hi v l := by
  refine ⟨World.ownsRow.kept h.1 (grown_set w p x) ?_, h.2⟩
  cases hv : v.ownBlock with
  | none => exact .inl rfl
  | some g =>
    right
    intro e
    have := (World.ownsRow.lt h.1 g hv).1
    injection e with e
    omega
theorem OwnR.alloc {w : World} {lo hi : Nat} {v : Value} {l : List Int} (h : OwnR w lo hi v l) (o : Obj) : OwnR (w.alloc o) lo hi v l := ⟨h.1.alloc o, h.2⟩

end Go.Proofs.YtnpfmmdekjjnjaaGreatDoor
