/- Contracts: which letter, which word: impl.headingOf, impl.stepWords. -/
import Derived.Test.YtnpfmmdekjjnjaaGreatDoorLawPt2
namespace Go.Proofs.YtnpfmmdekjjnjaaGreatDoor
open Go Go.RowKit Pl

theorem letter_idx (c : UInt8) : IdxOf plWords [c] (Lib.index [101, 110, 119, 115] [c]) := by
  by_cases h1 : c = 101
  · subst h1; exact .inl ⟨0, by decide, rfl, by decide⟩
  by_cases h2 : c = 110
  · subst h2; exact .inl ⟨1, by decide, rfl, by decide⟩
  by_cases h3 : c = 119
  · subst h3; exact .inl ⟨2, by decide, rfl, by decide⟩
  by_cases h4 : c = 115
  · subst h4; exact .inl ⟨3, by decide, rfl, by decide⟩
  refine .inr ⟨?_, index_none (by simp [h1, h2, h3, h4])⟩
  intro k hk e
  have hk' : k < 4 := hk
  match k, hk' with
  | 0, _ => exact h1 (List.cons.inj e).1.symm
  | 1, _ => exact h2 (List.cons.inj e).1.symm
  | 2, _ => exact h3 (List.cons.inj e).1.symm
  | 3, _ => exact h4 (List.cons.inj e).1.symm
theorem letter_none {a : List UInt8} (h : a.length ≠ 1) : IdxOf plWords a (-1) := by
  refine .inr ⟨?_, rfl⟩
  intro k hk e
  apply h
  rw [← e]
  have hk' : k < 4 := hk
  match k, hk' with
  | 0, _ => rfl
  | 1, _ => rfl
  | 2, _ => rfl
  | 3, _ => rfl
theorem headingOf_any (a : List UInt8) (B : Nat) (w : World) (hw : Std B w) : ∃ z, IdxOf plWords a z ∧ z < 4 ∧ -1 ≤ z ∧
    Calls Tryz.prog 34 #[(Value.string ⟨(a).toArray⟩)] w fun e w' => e = .returned (.int .i64 z) ∧ w = w' := by
  have bd : ∀ z, IdxOf plWords a z → z < 4 ∧ -1 ≤ z := by
    rintro z (⟨k, hk, _, rfl⟩ | ⟨_, rfl⟩)
    · have : k < 4 := hk
      omega
    · omega
  by_cases h : a.length = 1
  · obtain ⟨c, rfl⟩ := List.length_eq_one_iff.1 h
    obtain ⟨m, hm⟩ := hw.1
    have hi := letter_idx c
    refine ⟨_, hi, (bd _ hi).1, (bd _ hi).2, ?_⟩
    have HC := Lib.hid (Tryz.strings_Index ⟨#[101, 110, 119, 115]⟩ ⟨#[c]⟩ m w (by decide) hm |>.mono fun e w' h => (⟨h.1, h.2.symm⟩ : e = .returned (.int .i64 (Lib.index [101, 110, 119, 115] [c])) ∧ w = w'))
    clear hi bd hm h hw
    generalize Lib.index [101, 110, 119, 115] [c] = z at *
    go_enter Tryz.func34, Tryz.ntmps34
    go_wp2_with fail
    refine HC.out.mono ?_
    rintro e w' ⟨rfl, rfl⟩
    go_wp2_with fail
    go_ret
    exact ⟨rfl, rfl⟩
  · have hi := letter_none h
    refine ⟨-1, hi, by omega, by omega, ?_⟩
    have hl : ((a.length : Int) != 1) = true := by rw [bne_iff_ne]; omega
    clear hi bd h hw
    go_enter Tryz.func34, Tryz.ntmps34
    go_wp2_with fail
    go_ret
    exact ⟨rfl, rfl⟩

theorem bytes_inj {l a : List UInt8} : (⟨l.toArray⟩ : ByteArray) = ⟨a.toArray⟩ ↔ l = a := by
  constructor
  · intro e
    injection e with e
    simpa using congrArg Array.toList e
  · rintro rfl; rfl
theorem step_idx (a : List UInt8) : IdxOf stWords a (Lib.idxOfS [⟨#[114, 105, 103, 104, 116]⟩, ⟨#[109, 111, 118, 101]⟩, ⟨#[108, 101, 102, 116]⟩] ⟨a.toArray⟩) := by
  have i1 := bytes_inj (l := [114, 105, 103, 104, 116]) (a := a)
  have i2 := bytes_inj (l := [109, 111, 118, 101]) (a := a)
  have i3 := bytes_inj (l := [108, 101, 102, 116]) (a := a)
  unfold Lib.idxOfS Lib.idxFromS Lib.idxFromS Lib.idxFromS Lib.idxFromS
  by_cases h1 : [114, 105, 103, 104, 116] = a
  · rw [if_pos (i1.2 h1)]
    exact .inl ⟨0, by decide, h1, rfl⟩
  rw [if_neg (fun e => h1 (i1.1 e))]
  by_cases h2 : [109, 111, 118, 101] = a
  · rw [if_pos (i2.2 h2)]
    exact .inl ⟨1, by decide, h2, rfl⟩
  rw [if_neg (fun e => h2 (i2.1 e))]
  by_cases h3 : [108, 101, 102, 116] = a
  · rw [if_pos (i3.2 h3)]
    exact .inl ⟨2, by decide, h3, rfl⟩
  rw [if_neg (fun e => h3 (i3.1 e))]
  refine .inr ⟨?_, rfl⟩
  intro k hk e
  have hk' : k < 3 := hk
  match k, hk' with
  | 0, _ => exact h1 e
  | 1, _ => exact h2 e
  | 2, _ => exact h3 e
theorem stepWords_any (w : World) : Calls Tryz.prog 41 #[] w fun e w' => e = .returned (.slice (some ⟨w.heap.size, 0, none⟩) 3 3) ∧ w.alloc (.cells #[(Value.string ⟨([114, 105, 103, 104, 116]).toArray⟩), (Value.string ⟨([109, 111, 118, 101]).toArray⟩), (Value.string ⟨([108, 101, 102, 116]).toArray⟩)] 9) = w' := by
  go_enter Tryz.func41, Tryz.ntmps41
  go_wp2_with fail
  go_ret
  exact ⟨rfl, rfl⟩
theorem stepIdx_any (a : List UInt8) (w : World) (g : Nat) (hg : w.heap[g]? = some (.cells #[(Value.string ⟨([114, 105, 103, 104, 116]).toArray⟩), (Value.string ⟨([109, 111, 118, 101]).toArray⟩), (Value.string ⟨([108, 101, 102, 116]).toArray⟩)] 9)) :
    ∃ z, IdxOf stWords a z ∧ z < 3 ∧ -1 ≤ z ∧ Calls Tryz.prog 40 #[.slice (some ⟨g, 0, none⟩) 3 3, (Value.string ⟨(a).toArray⟩)] w fun e w' => e = .returned (.int .i64 z) ∧ w = w' := by
  have hi := step_idx a
  have bd : ∀ z, IdxOf stWords a z → z < 3 ∧ -1 ≤ z := by
    rintro z (⟨k, hk, _, rfl⟩ | ⟨_, rfl⟩)
    · have : k < 3 := hk
      omega
    · omega
  refine ⟨_, hi, (bd _ hi).1, (bd _ hi).2, ?_⟩
  refine (Tryz.slices_Index_string g 0 3 3 [⟨#[114, 105, 103, 104, 116]⟩, ⟨#[109, 111, 118, 101]⟩, ⟨#[108, 101, 102, 116]⟩] ⟨a.toArray⟩ w (by decide) (by decide) ?_).mono fun e w' h => ⟨h.1, h.2.symm⟩
  intro j hj
  have hj' : j < 3 := hj
  rw [row_cell hg]
  match j, hj' with
  | 0, _ => rfl
  | 1, _ => rfl
  | 2, _ => rfl
end Go.Proofs.YtnpfmmdekjjnjaaGreatDoor
