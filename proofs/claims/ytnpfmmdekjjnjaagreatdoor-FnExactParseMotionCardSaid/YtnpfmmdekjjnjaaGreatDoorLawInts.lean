/- Contracts of the laws' own helpers on lists of integers: eqIntS, markIntS, heldIntS. -/
import Derived.Test.YtnpfmmdekjjnjaaGreatDoorRatOk
namespace Go.Proofs.YtnpfmmdekjjnjaaGreatDoor
open Go Go.RowKit Pl

/-- eqIntS at two slices that hold the same. -/
theorem eqIntS_any (l : List Int) (va vb : Value) (w : World) (ha : Ints w 0 w.heap.size va l) (hb : Ints w 0 w.heap.size vb l) :
    Calls Tryz.prog 94 #[va, vb] w fun e w' => e = .returned (.bool true) ∧ Drew w w' := by
  have la := ha.len
  unfold maxLen at la
  obtain ⟨p, c, rfl, _, _⟩ := ha.form
  obtain ⟨q, d, rfl, _, _⟩ := hb.form
  generalize hL : l.length = L at *
  have HL := Lib.hid hL
  clear hL
  have hl1 : ((L : Int) != L) = false := by simp
  go_enter Tryz.func94, Tryz.ntmps94
  go_wp2_with fail
  go_loopw [5] (fun v wr => ∃ k : Nat, k ≤ L ∧ v = .int .i64 k ∧ Drew w wr) (fun v _ => L - (intOf v).toNat)
  case atStart => exact ⟨0, Nat.zero_le _, rfl, Drew.refl w⟩
  case round =>
    obtain ⟨k, hk, rfl, kk, rfl⟩ := hrel
    rcases Nat.lt_or_ge k L with hlt | hge
    · obtain ⟨b1, o1, rfl, _, c1⟩ := ha.at_ (i := k) (by rw [HL.out]; exact hlt)
      obtain ⟨b2, o2, rfl, _, c2⟩ := hb.at_ (i := k) (by rw [HL.out]; exact hlt)
      have hn : (nth l k != nth l k) = false := by simp
      go_wp2_with fail
      go_quiet (fail)
      go_wp2_with fail
      go_roundw
      case rel => exact ⟨k + 1, hlt, by go_num, _, rfl⟩
      case measure => simp only [intOf]; omega
    · go_wp2_with fail
      go_ret
      exact ⟨rfl, kk, rfl⟩

/-- The numbers that a mark writes. -/
def marks (k : Nat) (n : Nat) : List Int := (List.range n).map fun i => ((k + i : Nat) : Int)
theorem marks_len (k n : Nat) : (marks k n).length = n := by simp [marks]
theorem marks_at {k n i : Nat} (h : i < n) : nth (marks k n) i = ((k + i : Nat) : Int) := by
  rw [nth_lt (by rw [marks_len]; exact h)]
  simp [marks]

theorem heldIntS_any (k n : Nat) (va : Value) (w : World) (ha : Ints w 0 w.heap.size va (marks k n)) (hk : k + n ≤ 1099511627776) :
    Calls Tryz.prog 60 #[va, .int .i64 k] w fun e w' => e = .returned (.int .i64 ((k + n : Nat) : Int)) ∧ w = w' := by
  obtain ⟨p, c, rfl, _, _⟩ := ha.form
  rw [marks_len] at *
  go_enter Tryz.func60, Tryz.ntmps60
  go_wp2_with fail
  go_loop [1, 5] (fun kv v => ∃ i : Nat, i ≤ n ∧ v = .int .i64 i ∧ kv = .int .i64 ((k + i : Nat) : Int)) (fun _ v => n - (intOf v).toNat)
  case atStart => exact ⟨0, Nat.zero_le _, rfl, rfl⟩
  case round =>
    obtain ⟨i, hi, rfl, rfl⟩ := hrel
    rcases Nat.lt_or_ge i n with hlt | hge
    · obtain ⟨b1, o1, rfl, _, c1⟩ := ha.at_ (i := i) (by rw [marks_len]; exact hlt)
      rw [marks_at hlt] at c1
      generalize hm : k + i = m at *
      have hm2 : m + 1 = k + (i + 1) := by omega
      have HM := Lib.hid hm2
      have hmb : m < 1099511627776 := by omega
      clear hm hm2
      have hn : (((m : Int)) != (m : Int)) = false := by simp
      go_wp2_with fail
      go_round
      case rel => exact ⟨i + 1, hlt, by go_num, by rw [← HM.out]; go_num⟩
      case measure => simp only [intOf]; omega
    · have HI : Hid (i = n) := by show i = n; omega
      go_wp2_with fail
      go_ret
      exact ⟨by rw [HI.out]; rfl, rfl⟩

theorem set_grown (w : World) (p : Addr) (x : Value) : w.grownBy (w.setCell p x) (some p.block) :=
  ⟨rfl, rfl, rfl, by rw [size_setCell]; exact Nat.le_refl _, fun k _ hne => Below.heap_setCell w p x k (fun e => hne (by rw [e]))⟩
theorem marks_set (k n i : Nat) (l : List Int) (hl : l.length = n) (hi : i < n) : (marks k i ++ l.drop i).set i ((k + i : Nat) : Int) = marks k (i + 1) ++ l.drop (i + 1) := by
  rw [List.set_append_right _ _ (by rw [marks_len]; exact Nat.le_refl _), marks_len, Nat.sub_self, List.drop_eq_getElem_cons (by omega), List.set_cons_zero]
  simp [marks, List.range_succ]

theorem markIntS_any (k : Nat) (l : List Int) (base : Nat) (va : Value) (w : World) (ha : OwnI 3 w base va l) (hk : k + l.length ≤ 1099511627776) :
    Calls Tryz.prog 59 #[va, .int .i64 k] w fun e w' => e = .returned (.int .i64 ((k + l.length : Nat) : Int)) ∧ OwnI 3 w' base va (marks k l.length) ∧ w.grownBy w' va.ownBlock ∧ w'.heap.size = w.heap.size := by
  obtain ⟨p, c, rfl, _, _⟩ := ha.form
  have HL : Hid (l.length = l.length) := rfl
  revert HL
  generalize hL : l.length = n at *
  intro _
  have HL : Hid (l.length = n) := hL
  clear hL
  generalize hV : Value.slice p n c = V at *
  have HV := Lib.hid hV
  have hg0 : w.grownBy w V.ownBlock := ⟨rfl, rfl, rfl, Nat.le_refl _, fun _ _ _ => rfl⟩
  subst hV
  go_enter Tryz.func59, Tryz.ntmps59
  go_wp2_with fail
  go_loopw [1, 5] (fun kv v wr => ∃ i : Nat, i ≤ n ∧ v = .int .i64 i ∧ kv = .int .i64 ((k + i : Nat) : Int) ∧ OwnI 3 wr base (.slice p n c) (marks k i ++ l.drop i) ∧ w.grownBy wr (Value.slice p n c).ownBlock ∧ wr.heap.size = w.heap.size) (fun _ v _ => n - (intOf v).toNat)
  case atStart => exact ⟨0, Nat.zero_le _, rfl, rfl, ha, hg0, rfl⟩
  case round =>
    obtain ⟨i, hi, rfl, rfl, hown, hgr, hsz⟩ := hrel
    clear ha hg0
    rcases Nat.lt_or_ge i n with hlt | hge
    · have hlen : (marks k i ++ l.drop i).length = n := by rw [List.length_append, marks_len, List.length_drop, HL.out]; omega
      obtain ⟨g, c', he, hbg, hgs, hc, hf, hset⟩ := hown.store (i := i) (by rw [hlen]; exact hlt)
      have HS := Lib.hid (hset ((k + i : Nat) : Int))
      rw [marks_set k n i l HL.out hlt] at HS
      rw [hlen] at he
      injection he with he1 _ he3
      subst he1
      have HG := Lib.hid hgr
      have HZ := Lib.hid hsz
      clear hset hown hgr hsz hlen
      generalize hm : k + i = m at *
      have hm2 : m + 1 = k + (i + 1) := by omega
      have HM := Lib.hid hm2
      have hmb : m < 1099511627776 := by omega
      clear hm hm2
      go_wp2_with fail
      go_roundw
      case rel => exact ⟨i + 1, hlt, by go_num, by rw [← HM.out]; go_num, HS.out, World.grownBy.trans HG.out (set_grown _ _ _), by rw [size_setCell]; exact HZ.out⟩
      case measure => simp only [intOf]; omega
    · have HI : Hid (i = n) := by show i = n; omega
      have HO := Lib.hid hown
      clear hown
      go_wp2_with fail
      go_ret
      refine ⟨by rw [HI.out]; rfl, ?_, hgr, hsz⟩
      have := HO.out
      rw [HI.out, List.drop_eq_nil_of_le (by rw [HL.out]; exact Nat.le_refl _), List.append_nil] at this
      exact this

end Go.Proofs.YtnpfmmdekjjnjaaGreatDoor
