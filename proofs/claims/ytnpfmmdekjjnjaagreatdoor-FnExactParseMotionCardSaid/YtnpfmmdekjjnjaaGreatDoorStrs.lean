/- Slices of strings that a call has made; spec.SplitAny at one byte. -/
import Derived.Test.YtnpfmmdekjjnjaaGreatDoorParseBigS
namespace Go.Proofs.YtnpfmmdekjjnjaaGreatDoor
open Go Go.RowKit Pl

theorem info_str : (Tryz.prog.info? 9).map (fun i => (i.zero, i.size, i.bytes)) = some (some (.string ⟨#[]⟩), 1, 16) := by kernel_rfl
/-- A slice of strings that the call itself has made (from block 'base' on). -/
def OwnS (w : World) (base : Nat) (v : Value) (l : List (List UInt8)) : Prop := w.ownsRow base 9 1 v l.length (l.map fun s => (Value.string ⟨(s).toArray⟩))
theorem OwnS.made (w : World) (base : Nat) (hb : base ≤ w.heap.size) : OwnS (w.alloc (.cells #[] 9)) base (.slice (some ⟨w.heap.size, 0, none⟩) 0 0) [] := World.ownsRow_made w #[] 0 hb (Nat.zero_le _) rfl
theorem OwnS.below {w w' : World} {base : Nat} {v : Value} {l : List (List UInt8)} (h : OwnS w base v l) (hb : Below w.heap.size w w') : OwnS w' base v l := by
  refine World.ownsRow.kept (row := none) h ⟨hb.os, hb.tape, hb.output, hb.size, fun k hk _ => hb.block k hk⟩ ?_
  cases hv : v.ownBlock <;> simp
/-- 'append(s, y)'. -/
theorem push_str {w : World} {v : Value} {l : List (List UInt8)} {base : Nat} {ops : Array Oper} {rest : List Oper} {o : Oper} {a : Act} {Q : Exit → Act → World → Prop} (y : List UInt8) (s x : Operand) (hgd : o.guard = none)
    (ho : o.op = .call { callee := .builtin .append, args := #[s, x], argTypes := #[56, 56] }) (hs : a.eval s = v) (hown : OwnS w base v l)
    (hx : a.eval x = .slice (some ⟨w.heap.size, 0, none⟩) 1 1) (hl : l.length ≤ 1099511627776) (hbase : base ≤ w.heap.size)
    (h : ∀ v' w', OwnS w' base v' (l ++ [y]) → Below base w w' → wpList Tryz.prog ops Q rest (a.put o.dst v') w') : wpList Tryz.prog ops Q (o :: rest) a (w.alloc (.cells #[(Value.string ⟨(y).toArray⟩)] 9)) := by
  obtain ⟨i, hi, hz, hz1, hz2⟩ := info_parts info_str
  refine wpList_append_own _ hgd s x 56 ho base 9 i (.string ⟨#[]⟩) 1 16 Tryz.underlying56 hi hz hz1 hz2 rfl (by decide) v l.length _ hs (World.ownsRow.alloc hown _) ⟨w.heap.size, 0, none⟩ 1 1 [(Value.string ⟨(y).toArray⟩)] hx rfl
    ?_ ?_ ?_ ?_ ?_ ?_
  · intro j u hu
    cases j with
    | zero =>
      simp at hu
      subst hu
      rw [show ((⟨w.heap.size, 0, none⟩ : Addr).add 0) = ⟨w.heap.size, 0, none⟩ from rfl, cell_of_row _ w.heap.size 0 _ 9 (0, 0) (heap_alloc_new w _)]
      rfl
    | succ j => simp at hu
  · intro u hu
    simp at hu
    subst hu
    rfl
  · simp only [maxLen]; omega
  · omega
  · simp; omega
  · intro v' w' h1 h2 _
    have hg : w.grownBy w' v.ownBlock := ⟨h2.os, h2.tape, h2.output, Nat.le_trans (by simp) h2.size, fun k hk hne => (h2.block k (by simp; omega) hne).trans (Below.heap_alloc w _ k hk)⟩
    refine h v' w' ?_ ((Below.refl _ _).grown hg hbase fun k hk => (World.ownsRow.lt hown k hk).1)
    simpa [OwnS] using h1
/-- The cell of a piece. -/
theorem OwnS.cell {w : World} {base : Nat} {v : Value} {l : List (List UInt8)} (h : OwnS w base v l) {i : Nat} (hi : i < l.length) :
    ∃ g c, v = .slice (some ⟨g, 0, none⟩) l.length c ∧ w.cell? ⟨g, i, none⟩ = some (Value.string ⟨(l.getD i []).toArray⟩) ∧ g < w.heap.size ∧ base ≤ g := by
  rcases h.2 with ⟨rfl, h0⟩ | ⟨g, cap, cur, rfl, hb, hg, hnc, hm, hs, htake⟩
  · omega
  · refine ⟨g, cap, rfl, ?_, (Array.getElem?_eq_some_iff.1 hg).1, hb⟩
    rw [cell_of_row w g i cur 9 (0, 0) hg]
    have : (cur.toList.take (l.length * 1))[i]? = (l.map fun s => (Value.string ⟨(s).toArray⟩))[i]? := by rw [htake]
    rw [List.getElem?_take, if_pos (by omega)] at this
    rw [Array.getElem?_toList] at this
    rw [this, List.getElem?_map, List.getElem?_eq_getElem hi]
    simp [List.getD, hi]
theorem OwnS.form {w : World} {base : Nat} {v : Value} {l : List (List UInt8)} (h : OwnS w base v l) : ∃ p c, v = .slice p l.length c ∧ l.length ≤ c ∧ c ≤ maxLen := by
  rcases h.2 with ⟨rfl, h0⟩ | ⟨g, cap, cur, rfl, hb, hg, hnc, hm, hs, htake⟩
  · exact ⟨none, 0, by rw [h0], by omega, Nat.zero_le _⟩
  · exact ⟨_, _, rfl, hnc, hm⟩

theorem drop_cut {s : List UInt8} {f i : Nat} (h1 : f ≤ i) (h2 : i < s.length) : s.drop f = (s.drop f).take (i - f) ++ s.getD i 0 :: s.drop (i + 1) := by
  conv => lhs; rw [← List.take_append_drop (i - f) (s.drop f)]
  rw [List.drop_drop, show f + (i - f) = i by omega]
  congr 1
  rw [List.drop_eq_getElem_cons h2]
  simp [List.getD, h2]
theorem take_next {s : List UInt8} {f i : Nat} (h1 : f ≤ i) (h2 : i < s.length) : (s.drop f).take (i + 1 - f) = (s.drop f).take (i - f) ++ [s.getD i 0] := by
  rw [show i + 1 - f = (i - f) + 1 by omega, List.take_add_one, List.getElem?_drop, show f + (i - f) = i by omega]
  simp [List.getD, h2]
theorem ext_piece {s : List UInt8} {f i : Nat} (_h1 : f ≤ i) (_h2 : i ≤ s.length) : ByteArray.extract ⟨s.toArray⟩ f i = ⟨((s.drop f).take (i - f)).toArray⟩ := by
  apply ByteArray.ext
  simp [List.take_drop]
end Go.Proofs.YtnpfmmdekjjnjaaGreatDoor
