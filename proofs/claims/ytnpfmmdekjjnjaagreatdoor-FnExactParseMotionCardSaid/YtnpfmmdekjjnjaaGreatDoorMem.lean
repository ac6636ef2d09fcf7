/- Slices of integers in memory: what a slice value holds, and that new memory leaves it as it is. Over any program. -/
import Derived.Test.YtnpfmmdekjjnjaaGreatDoorAPlain
import Derived.WalkKit
import Derived.Below
import Derived.Laws.OwnMore
import Derived.Lib.Hide
import Derived.Deep.Draws
import Derived.Deep.QuietTactic
import Derived.OwnWalk
import Derived.Laws.AppendOwnNone
namespace Go.Proofs.YtnpfmmdekjjnjaaGreatDoor
open Go Go.RowKit Pl

/-- The slice value v holds the integers l; its block lies from lo up to hi. -/
def Ints (w : World) (lo hi : Nat) (v : Value) (l : List Int) : Prop :=
  ∃ (p : Option Addr) (c : Nat), v = .slice p l.length c ∧ l.length ≤ c ∧ c ≤ maxLen ∧ (p = none → c = 0) ∧
    (0 < l.length → ∃ b off, p = some ⟨b, off, none⟩ ∧ lo ≤ b ∧ b < hi ∧ ∀ i, i < l.length → w.cell? ⟨b, off + i, none⟩ = some (.int .i64 (nth l i)))

section
variable {w w' : World} {lo hi lo' hi' : Nat} {v : Value} {l : List Int}

theorem Ints.nil_ (w : World) (lo hi : Nat) : Ints w lo hi (.slice none 0 0) [] := ⟨none, 0, rfl, Nat.le_refl _, Nat.zero_le _, fun _ => rfl, fun h => absurd h (by simp)⟩
theorem Ints.len (h : Ints w lo hi v l) : l.length ≤ maxLen := by
  obtain ⟨p, c, _, h1, h2, _⟩ := h; omega
theorem Ints.keep (h : Ints w lo hi v l) (hk : ∀ p : Addr, p.block < hi → w'.cell? p = w.cell? p) : Ints w' lo hi v l := by
  obtain ⟨p, c, e, h1, h2, h0, h3⟩ := h
  refine ⟨p, c, e, h1, h2, h0, fun hl => ?_⟩
  obtain ⟨b, off, e1, e2, e3, e4⟩ := h3 hl
  exact ⟨b, off, e1, e2, e3, fun i hi => (hk _ e3).trans (e4 i hi)⟩
theorem Ints.wide (h : Ints w lo hi v l) (hl : lo' ≤ lo) (hh : hi ≤ hi') : Ints w lo' hi' v l := by
  obtain ⟨p, c, e, h1, h2, h0, h3⟩ := h
  refine ⟨p, c, e, h1, h2, h0, fun hp => ?_⟩
  obtain ⟨b, off, e1, e2, e3, e4⟩ := h3 hp
  exact ⟨b, off, e1, by omega, by omega, e4⟩
theorem Ints.below {B : Nat} (h : Ints w lo hi v l) (hb : Below B w w') (hB : hi ≤ B) : Ints w' lo hi v l := h.keep fun _ hp => hb.cell (by omega)
/-- What was there when a call began, behind it. -/
theorem Ints.on (h : Ints w lo w.heap.size v l) (hb : Below w.heap.size w w') : Ints w' lo w'.heap.size v l := (h.below hb (Nat.le_refl _)).wide (Nat.le_refl _) hb.size
theorem Ints.drewN (h : Ints w lo hi v l) (n : Nat) : Ints (w.drewN n) lo hi v l := h
/-- The cell of an index, and where the slice begins. -/
theorem Ints.at_ {p : Option Addr} {n c : Nat} (h : Ints w lo hi (.slice p n c) l) {i : Nat} (hi' : i < l.length) :
    ∃ b off, p = some ⟨b, off, none⟩ ∧ b < hi ∧ w.cell? ⟨b, off + i, none⟩ = some (.int .i64 (nth l i)) := by
  obtain ⟨q, d, e, h1, h2, hn0, h3⟩ := h
  obtain ⟨b, off, e1, e2, e3, e4⟩ := h3 (by omega)
  injection e with e5 e6 e7
  subst e5
  exact ⟨b, off, e1, e3, e4 i hi'⟩
/-- A slice that may be nil. -/
theorem Ints.nil0 {p : Option Addr} {n c : Nat} (h : Ints w lo hi (.slice p n c) l) (hp : p = none) : n = 0 ∧ c = 0 := by
  obtain ⟨q, d, e, h1, h2, hn0, h3⟩ := h
  injection e with e5 e6 e7
  subst e5 e7
  have := hn0 hp
  omega
theorem Ints.form (h : Ints w lo hi v l) : ∃ (p : Option Addr) (c : Nat), v = .slice p l.length c ∧ l.length ≤ c ∧ c ≤ maxLen := by
  obtain ⟨p, c, e, h1, h2, _⟩ := h; exact ⟨p, c, e, h1, h2⟩
/-- The slice up to n. -/
theorem Ints.take {p : Option Addr} {n c : Nat} (h : Ints w lo hi (.slice p n c) l) {k : Nat} (hk : k ≤ l.length) (hc : c ≤ maxLen) (hl : l.length ≤ c) : Ints w lo hi (.slice p k c) (l.take k) := by
  obtain ⟨q, d, e, h1, h2, hn0, h3⟩ := h
  injection e with e5 e6 e7
  subst e5
  have hlen : (l.take k).length = k := by simp; omega
  subst e7
  refine ⟨p, c, by rw [hlen], by omega, hc, hn0, fun hp => ?_⟩
  obtain ⟨b, off, e1, e2, e3, e4⟩ := h3 (by omega)
  refine ⟨b, off, e1, e2, e3, fun i hi => ?_⟩
  rw [hlen] at hi
  rw [e4 i (by omega)]
  congr 2
  simp [nth, List.getD, hi]
/-- A row of the call's own. -/
theorem Ints.own {base n : Nat} {e : TypeId} (h : w.ownsRow base e 1 v n (l.map (Value.int .i64))) (hn : n = l.length) : Ints w base w.heap.size v l := by
  subst hn
  rcases h.2 with ⟨rfl, h0⟩ | ⟨g, cap, cur, rfl, hb, hg, hnc, hm, hs, htake⟩
  · have : l = [] := List.eq_nil_of_length_eq_zero h0
    subst this
    exact Ints.nil_ _ _ _
  · refine ⟨some ⟨g, 0, none⟩, cap, rfl, hnc, hm, (fun h => by cases h), fun _ => ⟨g, 0, rfl, hb, (Array.getElem?_eq_some_iff.1 hg).1, fun i hi => ?_⟩⟩
    rw [Nat.zero_add, cell_of_row w g i cur e (0, 0) hg]
    have : (cur.toList.take (l.length * 1))[i]? = (l.map (Value.int .i64))[i]? := by rw [htake]
    rw [List.getElem?_take, if_pos (by omega)] at this
    rw [Array.getElem?_toList] at this
    rw [this, List.getElem?_map, List.getElem?_eq_getElem hi]
    simp [nth_lt hi]
end

/-- The slice value v holds the natural number n: its limbs. -/
def NatV (w : World) (lo hi : Nat) (v : Value) (n : Nat) : Prop := Ints w lo hi v (limbs n)

/-- What a call left: nothing that was there has turned. -/
theorem below_drewN (w : World) (n : Nat) : Below w.heap.size w (w.drewN n) := by
  induction n with
  | zero => exact Below.refl _ _
  | succ n ih => exact ih.drew

/-- A world that parts from another in draws alone. -/
def Drew (w w' : World) : Prop := ∃ k, w' = w.drewN k
theorem Drew.refl (w : World) : Drew w w := ⟨0, rfl⟩
theorem Drew.step {w w' : World} (h : Drew w w') (k : Nat) : Drew w (w'.drewN k) := by
  obtain ⟨j, rfl⟩ := h
  exact ⟨j + k, by rw [World.drewN_drewN]⟩
theorem Drew.n (w : World) (k : Nat) : Drew w (w.drewN k) := ⟨k, rfl⟩
theorem Drew.trans {w w' w'' : World} (h : Drew w w') (h' : Drew w' w'') : Drew w w'' := by
  obtain ⟨j, rfl⟩ := h'
  exact h.step j
theorem Drew.below {w w' : World} (h : Drew w w') : Below w.heap.size w w' := by
  obtain ⟨j, rfl⟩ := h
  exact below_drewN w j
theorem Drew.size {w w' : World} (h : Drew w w') : w'.heap.size = w.heap.size := by
  obtain ⟨j, rfl⟩ := h
  rfl
theorem Ints.drew {w w' : World} {lo hi : Nat} {v : Value} {l : List Int} (h : Ints w lo hi v l) (hd : Drew w w') : Ints w' lo hi v l := by
  obtain ⟨j, rfl⟩ := hd
  exact h

/-- A callee that leaves the world but for draws, met inside a region that draws (behind none, and behind earlier draws). -/
theorem quiet1 {P : Program} {f : FuncId} {args : Array Value} {w : World} {n : Nat} {v : Value}
    (h : Calls P f args (w.drewN n) fun e w' => e = .returned v ∧ Drew (w.drewN n) w') : Calls P f args (w.drewN n) fun e w'' => e = .returned v ∧ ∃ m, w'' = w.drewN m :=
  h.mono fun _ _ ⟨he, m, hm⟩ => ⟨he, n + m, by rw [hm, World.drewN_drewN]⟩
theorem quiet2 {P : Program} {f : FuncId} {args : Array Value} {w : World} {a n : Nat} {v : Value}
    (h : Calls P f args (w.drewN (a + n)) fun e w' => e = .returned v ∧ Drew (w.drewN (a + n)) w') :
    Calls P f args (w.drewN (a + n)) fun e w'' => e = .returned v ∧ ∃ m, w'' = w.drewN (a + m) :=
  h.mono fun _ _ ⟨he, m, hm⟩ => ⟨he, n + m, by rw [hm, World.drewN_drewN, Nat.add_assoc]⟩
theorem as_drew {P : Program} {f : FuncId} {args : Array Value} {w : World} {v : Value} (h : Calls P f args w fun e w' => e = .returned v ∧ w = w') :
    Calls P f args w fun e w' => e = .returned v ∧ Drew w w' := h.mono fun _ _ ⟨he, hw⟩ => ⟨he, 0, hw.symm⟩

/-- A slice of integers that the call itself has made (from block 'base' on; e: the element type's number). -/
def OwnI (e : TypeId) (w : World) (base : Nat) (v : Value) (l : List Int) : Prop := w.ownsRow base e 1 v l.length (l.map (Value.int .i64))

section
variable {e : TypeId} {w w' : World} {base : Nat} {v : Value} {l : List Int}
theorem OwnI.nil_ (e : TypeId) (w : World) (base : Nat) : OwnI e w base (.slice none 0 0) [] := World.ownsRow_nil _ _ _ _
theorem OwnI.made (e : TypeId) (w : World) (cur : Array Value) (cap : Nat) (hb : base ≤ w.heap.size) (hm : cap ≤ maxLen) (hs : cur.size = cap) :
    OwnI e (w.alloc (.cells cur e)) base (.slice (some ⟨w.heap.size, 0, none⟩) 0 cap) [] := World.ownsRow_made w cur cap hb hm (by simpa using hs)
theorem OwnI.ints (h : OwnI e w base v l) : Ints w base w.heap.size v l := Ints.own h rfl
theorem OwnI.drewN (h : OwnI e w base v l) (n : Nat) : OwnI e (w.drewN n) base v l := h
theorem OwnI.drew (h : OwnI e w base v l) (hd : Drew w w') : OwnI e w' base v l := by
  obtain ⟨j, rfl⟩ := hd
  exact h
theorem OwnI.alloc (h : OwnI e w base v l) (o : Obj) : OwnI e (w.alloc o) base v l := World.ownsRow.alloc h o
theorem OwnI.kept (h : OwnI e w base v l) {row : Option Nat} (hg : w.grownBy w' row) (hne : v.ownBlock = none ∨ v.ownBlock ≠ row) : OwnI e w' base v l := World.ownsRow.kept h hg hne
/-- It stays over a call that leaves alone what was there. -/
theorem OwnI.below (h : OwnI e w base v l) (hb : Below w.heap.size w w') : OwnI e w' base v l := by
  refine World.ownsRow.kept (row := none) h ⟨hb.os, hb.tape, hb.output, hb.size, fun k hk _ => hb.block k hk⟩ ?_
  cases hv : v.ownBlock <;> simp
theorem OwnI.form (h : OwnI e w base v l) : ∃ (p : Option Addr) (c : Nat), v = .slice p l.length c ∧ l.length ≤ c ∧ c ≤ maxLen := h.ints.form

/-- 'append(s, y)': y was laid in a block of one cell; the row was the call's own. -/
theorem push_int {P : Program} {t : TypeId} (ht : P.underlying t = some (.slice e)) (hinfo : (P.info? e).map (fun i => (i.zero, i.size, i.bytes)) = some (some (.int .i64 0), 1, 8))
    {ops : Array Oper} {rest : List Oper} {o : Oper} {a : Act} {Q : Exit → Act → World → Prop} (y : Int) (s x : Operand) (hgd : o.guard = none)
    (ho : o.op = .call { callee := .builtin .append, args := #[s, x], argTypes := #[t, t] }) (hs : a.eval s = v) (hown : OwnI e w base v l)
    (hx : a.eval x = .slice (some ⟨w.heap.size, 0, none⟩) 1 1) (hl : l.length < 1099511627776) (hbase : base ≤ w.heap.size)
    (h : ∀ v' w', OwnI e w' base v' (l ++ [y]) → w.grownBy w' v.ownBlock → Below base w w' → wpList P ops Q rest (a.put o.dst v') w') : wpList P ops Q (o :: rest) a (w.alloc (.cells #[.int .i64 y] e)) := by
  obtain ⟨i, hi, hz, hz1, hz2⟩ := info_parts hinfo
  refine wpList_append_own _ hgd s x t ho base e i (.int .i64 0) 1 8 ht hi hz hz1 hz2 rfl (by decide) v l.length _ hs (hown.alloc _) ⟨w.heap.size, 0, none⟩ 1 1 [.int .i64 y] hx rfl
    ?_ ?_ ?_ ?_ ?_ ?_
  · intro j u hu
    cases j with
    | zero =>
      simp at hu
      subst hu
      rw [show ((⟨w.heap.size, 0, none⟩ : Addr).add 0) = ⟨w.heap.size, 0, none⟩ from rfl, cell_of_row _ w.heap.size 0 _ e (0, 0) (heap_alloc_new w _)]
      rfl
    | succ j => simp at hu
  · intro u hu
    simp at hu
    subst hu
    rfl
  · simp only [maxLen]; omega
  · omega
  · simp; omega
  · intro v' w' h1 h2 _
    have hg : w.grownBy w' v.ownBlock := ⟨h2.os, h2.tape, h2.output, Nat.le_trans (by simp) h2.size, fun k hk hne => (h2.block k (by simp; omega) hne).trans (Below.heap_alloc w _ k hk)⟩
    refine h v' w' ?_ hg ((Below.refl _ _).grown hg hbase fun k hk => (World.ownsRow.lt hown k hk).1)
    simpa [OwnI] using h1

/-- 'append(s, xs...)': xs a slice of integers, nil, empty or not; the row was the call's own. -/
theorem append_ints {P : Program} {t : TypeId} (ht : P.underlying t = some (.slice e)) (hinfo : (P.info? e).map (fun i => (i.zero, i.size, i.bytes)) = some (some (.int .i64 0), 1, 8))
    {ops : Array Oper} {rest : List Oper} {o : Oper} {a : Act} {Q : Exit → Act → World → Prop} (m : List Int) (xv : Value) (lo hi : Nat) (s x : Operand) (hgd : o.guard = none)
    (ho : o.op = .call { callee := .builtin .append, args := #[s, x], argTypes := #[t, t] }) (hs : a.eval s = v) (hown : OwnI e w base v l)
    (hx : a.eval x = xv) (hxi : Ints w lo hi xv m) (hl : l.length + m.length < 1099511627776) (hbase : base ≤ w.heap.size)
    (h : ∀ v' w', OwnI e w' base v' (l ++ m) → w.grownBy w' v.ownBlock → Below base w w' → wpList P ops Q rest (a.put o.dst v') w') : wpList P ops Q (o :: rest) a w := by
  obtain ⟨i, hi, hz, hz1, hz2⟩ := info_parts hinfo
  obtain ⟨p, c, rfl, h1, h2, hn0, h3⟩ := hxi
  rcases p with _ | ad
  · have hc := hn0 rfl
    subst hc
    have hm : m = [] := List.eq_nil_of_length_eq_zero (by omega)
    subst hm
    refine wpList_append_own_none hgd s x t ho base e i 1 ht hi v l.length _ hs hown hx ?_
    refine h v w (by simpa using hown) (World.grownBy.refl _ _) (Below.refl _ _)
  · refine wpList_append_own _ hgd s x t ho base e i (.int .i64 0) 1 8 ht hi hz hz1 hz2 rfl (by decide) v l.length _ hs hown ad m.length c (m.map (Value.int .i64)) hx (by simp)
      ?_ ?_ ?_ ?_ hbase ?_
    · intro j u hu
      have hj : j < m.length := by
        rcases Nat.lt_or_ge j m.length with hj | hj
        · exact hj
        · rw [List.getElem?_eq_none (by simpa using hj)] at hu; cases hu
      obtain ⟨b, off, e1, e2, e3, e4⟩ := h3 (by omega)
      injection e1 with e1
      subst e1
      rw [Addr.add_lit, e4 j hj, nth_lt hj]
      rw [List.getElem?_map, List.getElem?_eq_getElem hj] at hu
      simpa using hu
    · intro u hu
      obtain ⟨z, _, rfl⟩ := List.mem_map.1 hu
      rfl
    · simp only [maxLen]; omega
    · omega
    · intro v' w' h4 h5 _
      refine h v' w' ?_ h5 ((Below.refl _ _).grown h5 hbase fun k hk => (World.ownsRow.lt hown k hk).1)
      simpa [OwnI] using h4
/-- 'make([]int, 0, n)'. -/
theorem make_int {P : Program} {t : TypeId} (ht : P.underlying t = some (.slice e)) (hinfo : (P.info? e).map (fun i => (i.zero, i.size, i.bytes)) = some (some (.int .i64 0), 1, 8))
    {ops : Array Oper} {rest : List Oper} {o : Oper} {a : Act} {Q : Exit → Act → World → Prop} (base : Nat) (C : Int) (n : Nat) (c : Operand) (hgd : o.guard = none)
    (ho : o.op = .makeSlice t (.const (.int .i64 0)) c) (hc : a.eval c = .int .i64 C) (hC : C = n) (hn : n ≤ 1099511627776) (hbase : base ≤ w.heap.size)
    (h : ∀ v' w', OwnI e w' base v' [] → Below w.heap.size w w' → wpList P ops Q rest (a.put o.dst v') w') : wpList P ops Q (o :: rest) a w := by
  obtain ⟨i, hi, hz, hz1, hz2⟩ := info_parts hinfo
  refine wpList_make_own w hgd _ c t ho base e i (.int .i64 0) 1 ht hi hz hz1 .i64 .i64 C n rfl hc hC (by rw [hz2]; omega) (by simp only [maxLen]; omega) hbase ?_
  intro w' h1 h2
  exact h _ w' h1 ((Below.refl _ _).grown h2 (Nat.le_refl _) fun k hk => by cases hk)
/-- 'make([]int, n)'. -/
theorem make_full {P : Program} {t : TypeId} (ht : P.underlying t = some (.slice e)) (hinfo : (P.info? e).map (fun i => (i.zero, i.size, i.bytes)) = some (some (.int .i64 0), 1, 8))
    {ops : Array Oper} {rest : List Oper} {o : Oper} {a : Act} {Q : Exit → Act → World → Prop} (base : Nat) (C : Int) (n : Nat) (c : Operand) (hgd : o.guard = none)
    (ho : o.op = .makeSlice t c c) (hc : a.eval c = .int .i64 C) (hC : C = n) (hn : n ≤ 1099511627776) (hbase : base ≤ w.heap.size)
    (h : ∀ v' w', OwnI e w' base v' (List.replicate n 0) → Below w.heap.size w w' → wpList P ops Q rest (a.put o.dst v') w') : wpList P ops Q (o :: rest) a w := by
  obtain ⟨i, hi, hz, hz1, hz2⟩ := info_parts hinfo
  refine wpList_make_full w hgd c c t ho base e i (.int .i64 0) 1 ht hi hz hz1 .i64 .i64 C C n hc hc hC hC (by rw [hz2]; omega) (by simp only [maxLen]; omega) hbase ?_
  intro w' h1 h2
  refine h _ w' ?_ ((Below.refl _ _).grown h2 (Nat.le_refl _) fun k hk => by cases hk)
  have e1 : (madeCells (Value.int .i64 0).cells (n * 1)).toList = (List.replicate n 0).map (Value.int .i64) := by
    apply List.ext_getElem?
    intro j
    simp only [madeCells, Value.cells, Array.getElem?_toList, List.getElem?_map]
    by_cases hj : j < n
    · simp [hj, Nat.mod_one]
    · simp [hj]
  rw [e1] at h1
  simpa [OwnI] using h1
/-- A store into a row of the call's own: where it goes, and what the row is behind it. -/
theorem OwnI.store (h : OwnI e w base v l) {i : Nat} (hi : i < l.length) :
    ∃ g c, v = .slice (some ⟨g, 0, none⟩) l.length c ∧ base ≤ g ∧ g < w.heap.size ∧ w.cell? ⟨g, i, none⟩ = some (.int .i64 (nth l i)) ∧ w.frozen? ⟨g, i, none⟩ = false ∧
      ∀ y, OwnI e (w.setCell ⟨g, i, none⟩ (.int .i64 y)) base v (l.set i y) := by
  rcases h.2 with ⟨rfl, h0⟩ | ⟨g, cap, cur, rfl, hb, hg, hnc, hm, hs, htake⟩
  · omega
  · have hcur : cur[i]? = some (.int .i64 (nth l i)) := by
      have : (cur.toList.take (l.length * 1))[i]? = (l.map (Value.int .i64))[i]? := by rw [htake]
      rw [List.getElem?_take, if_pos (by omega)] at this
      rw [Array.getElem?_toList] at this
      rw [this, List.getElem?_map, List.getElem?_eq_getElem hi]
      simp [nth_lt hi]
    refine ⟨g, cap, rfl, hb, (Array.getElem?_eq_some_iff.1 hg).1, by rw [cell_of_row w g i cur e (0, 0) hg]; exact hcur, by simp [World.frozen?, hg], fun y => ?_⟩
    refine ⟨by simp, .inr ⟨g, cap, cur.setIfInBounds i (.int .i64 y), by simp, hb, ?_, by simpa using hnc, hm, by simpa using hs, ?_⟩⟩
    · simp [World.setCell, Array.getElem?_modify, hg]
    · simp only [List.length_set]
      rw [Array.toList_setIfInBounds, List.take_set, htake, List.map_set]
theorem OwnI.cell (h : OwnI e w base v l) {i : Nat} (hi : i < l.length) : ∃ g c, v = .slice (some ⟨g, 0, none⟩) l.length c ∧ w.cell? ⟨g, i, none⟩ = some (.int .i64 (nth l i)) := by
  obtain ⟨g, c, h1, _, _, h2, _⟩ := h.store hi
  exact ⟨g, c, h1, h2⟩
/-- A row of one cell that was just laid. -/
theorem OwnI.one (e : TypeId) (w : World) (y : Int) (hb : base ≤ w.heap.size) : OwnI e (w.alloc (.cells #[.int .i64 y] e)) base (.slice (some ⟨w.heap.size, 0, none⟩) 1 1) [y] :=
  ⟨rfl, .inr ⟨w.heap.size, 1, #[.int .i64 y], rfl, hb, heap_alloc_new w _, Nat.le_refl _, by simp only [maxLen]; omega, rfl, rfl⟩⟩
theorem OwnI.block_lt {g n c : Nat} (h : OwnI e w base (.slice (some ⟨g, 0, none⟩) n c) l) : base ≤ g ∧ g < w.heap.size := World.ownsRow.lt h g rfl
/-- A store elsewhere. -/
theorem Ints.set {lo hi : Nat} (h : Ints w lo hi v l) {p : Addr} (hp : p.block < lo) (u : Value) : Ints (w.setCell p u) lo hi v l := by
  obtain ⟨q, c, e, h1, h2, h0, h3⟩ := h
  refine ⟨q, c, e, h1, h2, h0, fun hl => ?_⟩
  obtain ⟨b, off, e1, e2, e3, e4⟩ := h3 hl
  exact ⟨b, off, e1, e2, e3, fun i hi => by
    rw [World.cell?_setCell_other w p _ u (fun e => by subst e; simp at hp; omega)]
    exact e4 i hi⟩
theorem size_setCell (w : World) (p : Addr) (u : Value) : (w.setCell p u).heap.size = w.heap.size := by simp [World.setCell]
end

end Go.Proofs.YtnpfmmdekjjnjaaGreatDoor
