/- Contracts: spec.SplitAny at one byte. -/
import Derived.Test.YtnpfmmdekjjnjaaGreatDoorStrs
namespace Go.Proofs.YtnpfmmdekjjnjaaGreatDoor
open Go Go.RowKit Pl

/-- What the loop of SplitAny keeps. -/
def SplitInv (c : UInt8) (s : List UInt8) (out : List (List UInt8)) (f i : Nat) : Prop := out ++ split1 c (s.drop f) = split1 c s ∧ c ∉ (s.drop f).take (i - f)
theorem split_start (c : UInt8) (s : List UInt8) : SplitInv c s [] 0 0 := ⟨rfl, by simp⟩
theorem split_miss {c : UInt8} {s : List UInt8} {out : List (List UInt8)} {f i : Nat} (h : SplitInv c s out f i) (h1 : f ≤ i) (h2 : i < s.length) (hne : s.getD i 0 ≠ c) : SplitInv c s out f (i + 1) := by
  refine ⟨h.1, ?_⟩
  rw [take_next h1 h2, List.mem_append, List.mem_singleton]
  rintro (h' | h')
  · exact h.2 h'
  · exact hne h'.symm
theorem split_hit {c : UInt8} {s : List UInt8} {out : List (List UInt8)} {f i : Nat} (h : SplitInv c s out f i) (h1 : f ≤ i) (h2 : i < s.length) (he : s.getD i 0 = c) : SplitInv c s (out ++ [(s.drop f).take (i - f)]) (i + 1) (i + 1) := by
  refine ⟨?_, by simp⟩
  rw [← h.1]
  conv => rhs; rw [drop_cut h1 h2, he, split1_hit h.2]
  rw [List.append_assoc]
  rfl
theorem split_end {c : UInt8} {s : List UInt8} {out : List (List UInt8)} {f : Nat} (h : SplitInv c s out f s.length) : out ++ [(s.drop f).take (s.length - f)] = split1 c s := by
  have h2 : (s.drop f).take (s.length - f) = s.drop f := by
    rw [List.take_of_length_le]
    rw [List.length_drop]; exact Nat.le_refl _
  have := h.2
  rw [h2] at this
  rw [← h.1, split1_none this, h2]
theorem byte_beq (a b : UInt8) : ((a.toNat : Int) == b.toNat) = decide (a = b) := by
  by_cases h : a = b
  · subst h; simp
  · rw [decide_eq_false h, beq_eq_false_iff_ne]
    intro e
    exact h (UInt8.toNat_inj.1 (by omega))

set_option maxHeartbeats 1000000 in
theorem SplitAny_any (s : List UInt8) (c : UInt8) (w : World) (hl : s.length ≤ 1099511627775) :
    Calls Tryz.prog 30 #[(Value.string ⟨(s).toArray⟩), (Value.string ⟨([c]).toArray⟩)] w fun e w' => ∃ v, e = .returned v ∧ OwnS w' w.heap.size v (split1 c s) ∧ Below w.heap.size w w' := by
  have HST := Lib.hid (split_start c s)
  have hown0 := OwnS.made w w.heap.size (Nat.le_refl _)
  have hbel0 : Below w.heap.size w (w.alloc (.cells #[] 9)) := (Below.refl _ _).alloc (Nat.le_refl _) _
  have hgc := fun h' => byte_at (s := [c]) (i := 0) (by simp) h'
  rw [show [c].getD 0 0 = c from rfl] at hgc
  go_enter Tryz.func30, Tryz.ntmps30
  go_wp2_with fail
  go_loopw [5, 6, 7] (fun ov fv iv wr => ∃ (out : List (List UInt8)) (f i : Nat), fv = .int .i64 f ∧ iv = .int .i64 i ∧ f ≤ i ∧ i ≤ s.length ∧ out.length ≤ f ∧ OwnS wr w.heap.size ov out ∧ Hid (SplitInv c s out f i) ∧ Below w.heap.size w wr) (fun _ _ iv _ => s.length - (intOf iv).toNat)
  case atStart => exact ⟨[], 0, 0, rfl, rfl, Nat.le_refl _, Nat.zero_le _, Nat.zero_le _, hown0, HST, hbel0⟩
  case round =>
    obtain ⟨out, f, i, rfl, rfl, hfi, hil, hof, hown, hinv, hbel⟩ := hrel
    clear hown0 hbel0
    rcases Nat.lt_or_ge i s.length with hk | hk
    · have hg := fun h' => byte_at hk h'
      have hhit := split_hit hinv.out hfi hk
      have hmiss := split_miss hinv.out hfi hk
      have HX := Lib.hid (ext_piece (s := s) hfi (by omega))
      have hbb := byte_beq (s.getD i 0) c
      generalize hx : s.getD i 0 = x at *
      have HHIT := Lib.hid hhit
      have HMISS := Lib.hid hmiss
      have HXX := Lib.hid hx
      clear hhit hmiss hx
      go_wp2_with fail
      go_loopw [5, 6, 8] (fun ov' fv' kv wr' => ov' = u5 ∧ fv' = .int .i64 f ∧ (kv = .int .i64 0 ∨ (kv = .int .i64 1 ∧ Hid (x ≠ c))) ∧ ∃ nq, wr' = wr.drewN nq) (fun _ _ kv _ => (1 - intOf kv).toNat)
      case atStart => exact ⟨rfl, rfl, .inl rfl, 0, rfl⟩
      case round =>
        obtain ⟨rfl, rfl, rfl | ⟨rfl, hxc⟩, nq0, rfl⟩ := hrel
        · by_cases he : x = c
          · have hb1 : ((x.toNat : Int) == c.toNat) = true := by rw [hbb, decide_eq_true he]
            have HE := Lib.hid he
            clear he hbb
            go_wp2
            go_quiet (fail)
            have hownN : OwnS (wr.drewN (nq0 + nq)) w.heap.size u5 out := hown
            have hbelN : Below w.heap.size w (wr.drewN (nq0 + nq)) := hbel.trans ((below_drewN wr (nq0 + nq)).mono hbel.size)
            go_wp2_with (at_builtin; rw [HX.out]; refine push_str _ _ _ rfl rfl rfl hownN rfl (by omega) hbelN.size ?_; intro v1 w1 hown1 hb1)
            go_roundw
            case rel => exact ⟨_, i + 1, i + 1, by go_num, by go_num, Nat.le_refl _, hk, by rw [List.length_append, List.length_singleton]; omega, hown1, HHIT.out HE.out, hbelN.trans hb1⟩
            case measure => simp only [intOf]; omega
          · have hb1 : ((x.toNat : Int) == c.toNat) = false := by rw [hbb, decide_eq_false he]
            have HE := Lib.hid he
            clear he hbb
            go_wp2
            go_quiet (fail)
            go_wp2_with fail
            go_roundw
            case rel => exact ⟨rfl, rfl, .inr ⟨rfl, HE⟩, _, rfl⟩
            case measure => simp only [intOf]; omega
        · go_wp2_with fail
          go_roundw
          case rel => exact ⟨out, f, i + 1, rfl, by go_num, by omega, hk, hof, hown, HMISS.out hxc.out, hbel.trans ((below_drewN wr nq0).mono hbel.size)⟩
          case measure => simp only [intOf]; omega
    · have HEND := Lib.hid (split_end (s := s) (c := c) (out := out) (f := f) (by have := hinv.out; rwa [show i = s.length by omega] at this))
      have HX := Lib.hid (ext_piece (s := s) (f := f) (i := s.length) (by omega) (Nat.le_refl _))
      go_wp2_with (at_builtin; rw [HX.out]; refine push_str _ _ _ rfl rfl rfl hown rfl (by omega) hbel.size ?_; intro v1 w1 hown1 hb1)
      go_ret
      exact ⟨_, rfl, by rw [← HEND.out]; exact hown1, hbel.trans hb1⟩
end Go.Proofs.YtnpfmmdekjjnjaaGreatDoor
