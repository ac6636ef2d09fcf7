/- Contracts: reading a natural number: impl.ParseNat. -/
import Derived.Test.YtnpfmmdekjjnjaaGreatDoorParseNat
import Derived.Lib.ConvBytes
namespace Go.Proofs.YtnpfmmdekjjnjaaGreatDoor
open Go Go.RowKit Pl

theorem extract_size {s : List UInt8} {a e : Nat} (h1 : a ≤ e) (h2 : e ≤ s.length) : (ByteArray.extract ⟨s.toArray⟩ a e).size = e - a := by
  rw [ByteArray.size_extract]
  have : (⟨s.toArray⟩ : ByteArray).size = s.length := by simp [ByteArray.size]
  rw [this]; omega
theorem bytes_below (w : World) (t : TypeId) (b : ByteArray) : Below w.heap.size w (Lib.bytesWorld w t b) :=
  ⟨rfl, rfl, rfl, by rw [Lib.bytesWorld_size]; omega, fun k hk => Lib.bytesWorld_at_old w t b k hk⟩
theorem bytes_cells (w : World) (t : TypeId) {s : List UInt8} {a e : Nat} (h1 : a ≤ e) (h2 : e ≤ s.length) (j : Nat) (hj : j < e - a) :
    (Lib.bytesWorld w t (ByteArray.extract ⟨s.toArray⟩ a e)).cell? ⟨w.heap.size, j, none⟩ = some (.int .u8 ((s.getD (a + j) 0).toNat : Int)) := by
  rw [Lib.bytesWorld_cell w t _ j (by rw [extract_size h1 h2]; exact hj)]
  congr 2
  have : (ByteArray.extract ⟨s.toArray⟩ a e).data.toList = (s.drop a).take (e - a) := by
    simp [List.take_drop]
  rw [this]
  simp [List.getD, List.getElem?_drop, hj]

set_option maxHeartbeats 2000000 in
set_option maxRecDepth 100000 in
theorem ParseNat_any (s : List UInt8) (w : World) (hl : s.length ≤ 1099511627776) :
    Calls Tryz.prog 91 #[(Value.string ⟨(s).toArray⟩)] w (ParseNatPost s w) := by
  have HD := Lib.hid (IsDigits_any s w hl)
  by_cases hd : isDigs s
  · by_cases h540 : 540 < s.length
    · have hn : Hid (¬ parsable s) := fun h => by have := h.2; omega
      go_enter Tryz.func91, Tryz.ntmps91
      go_wp2_with fail
      refine HD.out.mono ?_
      rintro e w1 ⟨rfl, rfl⟩
      rw [decide_eq_true hd]
      go_wp2_with fail
      go_ret2
      exact ⟨Below.refl _ _, .inr ⟨hn.out, rfl⟩⟩
    · have hlen : 0 < s.length := List.length_pos_iff.2 hd.1
      have hg := fun h' => byte_at hlen h'
      have hh := head_at hlen
      have HH := Lib.hid hh
      clear hh
      generalize hc : s.getD 0 0 = c at *
      have HC := Lib.hid hc
      clear hc
      have hdd := Lib.hid hd
      by_cases h1 : 1 < s.length ∧ c = 48
      · obtain ⟨h1, h48⟩ := h1
        have hn : Hid (¬ parsable s) := not_canon_of HH.out h1 h48
        have hb : ((c.toNat : Int) == 48) = true := by rw [h48]; rfl
        clear h48
        go_enter Tryz.func91, Tryz.ntmps91
        go_wp2_with fail
        refine HD.out.mono ?_
        rintro e w1 ⟨rfl, rfl⟩
        rw [decide_eq_true hd]
        clear hd
        go_wp2_with fail
        go_ret2
        exact ⟨Below.refl _ _, .inr ⟨hn.out, rfl⟩⟩
      · have hp : Hid (parsable s) := ⟨canon_of hd HH.out h1, by omega⟩
        have hown0 := OwnI.made 3 w #[] 0 (Nat.le_refl _) (Nat.zero_le _) rfl
        have hbel0 : Below w.heap.size w (w.alloc (.cells #[] 3)) := (Below.refl _ _).alloc (Nat.le_refl _) _
        have HST := Lib.hid (Chunks.start s hlen)
        have hdig := Lib.hid hd.2
        have key : ∀ P : Prop, ((s.length ≤ 1) → P) → ((1 < s.length) → ((c.toNat : Int) == 48) = false → P) → P := by
          intro P p1 p2
          rcases Nat.lt_or_ge 1 s.length with h | h
          · exact p2 h (beq_eq_false_iff_ne.2 fun e => h1 ⟨h, byte_eq.1 (by omega)⟩)
          · exact p1 h
        clear h1
        go_enter Tryz.func91, Tryz.ntmps91
        go_wp2_with fail
        refine HD.out.mono ?_
        rintro e w1 ⟨rfl, rfl⟩
        rw [decide_eq_true hd]
        clear hd
        apply key
        · intro h1
          clear key
          go_wp2_with fail
          clear hg
          go_loopw [4, 5] (fun v ev wr => ∃ (out : List Int) (z : Int), ev = .int .i64 z ∧ z ≤ s.length ∧ OwnI 3 wr w.heap.size v out ∧ Hid (Chunks s out z) ∧ Below w.heap.size w wr) (fun _ ev _ => (intOf ev).toNat)
          case atStart => exact ⟨[], s.length, rfl, Int.le_refl _, hown0, HST, hbel0⟩
          case round =>
            obtain ⟨out, z, rfl, hzl, hown, hch, hbel⟩ := hrel
            clear hown0 hbel0
            by_cases hz : 0 < z
            · obtain ⟨e, rfl⟩ := Int.eq_ofNat_of_zero_le (show 0 ≤ z by omega)
              have hol : 9 * out.length ≤ s.length := by have := hch.out.1; omega
              generalize ha : e - 9 = a
              have hnext := hch.out.step hdig.out (by omega) a ha.symm
              have HN := Lib.hid hnext
              clear hnext
              have hsm := fun i (h : i < e) => piece_small (s := s) (a := a) (i := i) hdig.out (by omega)
              have HSM := Lib.hid hsm
              clear hsm
              have hae : a ≤ e := by omega
              have hmax : (max 0 ((e : Int) - 9)).toNat = a := by omega
              have hel : e ≤ s.length := by omega
              have HMAX := Lib.hid hmax
              clear hmax ha
              have hconv := Lib.run_convert_string_bytes (P := Tryz.prog) wr 9 42 5 (ByteArray.extract ⟨s.toArray⟩ a e) Tryz.underlying9 Tryz.underlying42 Tryz.underlying5
              rw [extract_size hae hel] at hconv
              have HCONV := Lib.hid hconv
              have HBB := Lib.hid (bytes_below wr 5 (ByteArray.extract ⟨s.toArray⟩ a e))
              have HBC := Lib.hid (bytes_cells wr 5 hae hel)
              clear hconv
              go_wp2_with fail
              rw [HMAX.out, HCONV.out]
              simp only [Result.andThen]
              rw [Oper.upon_value]
              have hbb := HBB.out
              have hbc := HBC.out
              clear HBB HBC HCONV
              generalize Lib.bytesWorld wr 5 (ByteArray.extract ⟨s.toArray⟩ a e) = W at *
              generalize grownCap wr (e - a) 0 5 = gc at *
              have HBC := Lib.hid hbc
              have hownW := hown.below hbb
              have hbelW := hbel.trans (hbb.mono hbel.size)
              clear hbc hown hbel hbb
              go_wp2_with fail
              go_loopw [6, 42] (fun nv iv wr' => ∃ j : Nat, j ≤ e - a ∧ iv = .int .i64 j ∧ nv = .int .i64 (piece s a (a + j)) ∧ wr' = W) (fun _ iv _ => (e - a) - (intOf iv).toNat)
              case atStart => exact ⟨0, Nat.zero_le _, rfl, by rw [Nat.add_zero, piece_zero]; rfl, rfl⟩
              case round =>
                obtain ⟨j, hj, rfl, rfl, rfl⟩ := hrel
                rcases Nat.lt_or_ge j (e - a) with hk | hk
                · have hsn := piece_snoc (s := s) (a := a) (i := a + j) (by omega) (by omega)
                  have hpl := HSM.out (a + j) (by omega)
                  have hcell := HBC.out j hk
                  have hdg := digs_at hdig.out (j := a + j) (by omega)
                  generalize hcc : s.getD (a + j) 0 = cc at *
                  have HCC := Lib.hid hcc
                  clear hcc
                  generalize hpp : piece s a (a + j) = pp at *
                  have HPP := Lib.hid hpp
                  clear hpp
                  have HSN := Lib.hid hsn
                  clear hsn
                  go_wp2_with fail
                  go_roundw
                  case rel => exact ⟨j + 1, by omega, by go_num, by rw [show a + (j + 1) = a + j + 1 by omega, HSN.out]; go_num, by trivial⟩
                  case measure => simp only [intOf]; omega
                · have HE : Hid (a + j = e) := by show a + j = e; omega
                  have HPE : Hid (piece s a (a + j) = piece s a e) := by show _ = _; rw [HE.out]
                  rw [HPE.out]
                  go_wp2_with (at_builtin; refine push_int Tryz.underlying22 info_int _ _ _ rfl rfl rfl hownW rfl (by omega) hbelW.size ?_; intro v1 w1 hown1 hg1 hb1)
                  go_roundw
                  case rel => exact ⟨_, _, rfl, by omega, hown1, HN, hbelW.trans hb1⟩
                  case measure => simp only [intOf]; omega
            · have hl2 := hch.out.done (by omega)
              have HL2 := Lib.hid hl2
              clear hl2
              obtain ⟨p, cp, rfl, _, _⟩ := hown.form
              go_wp2_with fail
              refine (trimmed_at out p cp wr w.heap.size wr.heap.size hown.ints).mono ?_
              rintro e w2 ⟨⟨k, hk, ht, rfl⟩, rfl⟩
              have HT := Lib.hid (OwnR.made (hown.take hk))
              clear hk
              go_wp2_with fail
              go_ret2
              exact ⟨hbel, .inl ⟨hp.out, _, rfl, by rw [← HL2.out, ← ht]; exact HT.out⟩⟩
        · intro h1 hb
          clear key
          go_wp2_with fail
          clear hg
          go_loopw [4, 5] (fun v ev wr => ∃ (out : List Int) (z : Int), ev = .int .i64 z ∧ z ≤ s.length ∧ OwnI 3 wr w.heap.size v out ∧ Hid (Chunks s out z) ∧ Below w.heap.size w wr) (fun _ ev _ => (intOf ev).toNat)
          case atStart => exact ⟨[], s.length, rfl, Int.le_refl _, hown0, HST, hbel0⟩
          case round =>
            obtain ⟨out, z, rfl, hzl, hown, hch, hbel⟩ := hrel
            clear hown0 hbel0
            by_cases hz : 0 < z
            · obtain ⟨e, rfl⟩ := Int.eq_ofNat_of_zero_le (show 0 ≤ z by omega)
              have hol : 9 * out.length ≤ s.length := by have := hch.out.1; omega
              generalize ha : e - 9 = a
              have hnext := hch.out.step hdig.out (by omega) a ha.symm
              have HN := Lib.hid hnext
              clear hnext
              have hsm := fun i (h : i < e) => piece_small (s := s) (a := a) (i := i) hdig.out (by omega)
              have HSM := Lib.hid hsm
              clear hsm
              have hae : a ≤ e := by omega
              have hmax : (max 0 ((e : Int) - 9)).toNat = a := by omega
              have hel : e ≤ s.length := by omega
              have HMAX := Lib.hid hmax
              clear hmax ha
              have hconv := Lib.run_convert_string_bytes (P := Tryz.prog) wr 9 42 5 (ByteArray.extract ⟨s.toArray⟩ a e) Tryz.underlying9 Tryz.underlying42 Tryz.underlying5
              rw [extract_size hae hel] at hconv
              have HCONV := Lib.hid hconv
              have HBB := Lib.hid (bytes_below wr 5 (ByteArray.extract ⟨s.toArray⟩ a e))
              have HBC := Lib.hid (bytes_cells wr 5 hae hel)
              clear hconv
              go_wp2_with fail
              rw [HMAX.out, HCONV.out]
              simp only [Result.andThen]
              rw [Oper.upon_value]
              have hbb := HBB.out
              have hbc := HBC.out
              clear HBB HBC HCONV
              generalize Lib.bytesWorld wr 5 (ByteArray.extract ⟨s.toArray⟩ a e) = W at *
              generalize grownCap wr (e - a) 0 5 = gc at *
              have HBC := Lib.hid hbc
              have hownW := hown.below hbb
              have hbelW := hbel.trans (hbb.mono hbel.size)
              clear hbc hown hbel hbb
              go_wp2_with fail
              go_loopw [6, 42] (fun nv iv wr' => ∃ j : Nat, j ≤ e - a ∧ iv = .int .i64 j ∧ nv = .int .i64 (piece s a (a + j)) ∧ wr' = W) (fun _ iv _ => (e - a) - (intOf iv).toNat)
              case atStart => exact ⟨0, Nat.zero_le _, rfl, by rw [Nat.add_zero, piece_zero]; rfl, rfl⟩
              case round =>
                obtain ⟨j, hj, rfl, rfl, rfl⟩ := hrel
                rcases Nat.lt_or_ge j (e - a) with hk | hk
                · have hsn := piece_snoc (s := s) (a := a) (i := a + j) (by omega) (by omega)
                  have hpl := HSM.out (a + j) (by omega)
                  have hcell := HBC.out j hk
                  have hdg := digs_at hdig.out (j := a + j) (by omega)
                  generalize hcc : s.getD (a + j) 0 = cc at *
                  have HCC := Lib.hid hcc
                  clear hcc
                  generalize hpp : piece s a (a + j) = pp at *
                  have HPP := Lib.hid hpp
                  clear hpp
                  have HSN := Lib.hid hsn
                  clear hsn
                  go_wp2_with fail
                  go_roundw
                  case rel => exact ⟨j + 1, by omega, by go_num, by rw [show a + (j + 1) = a + j + 1 by omega, HSN.out]; go_num, by trivial⟩
                  case measure => simp only [intOf]; omega
                · have HE : Hid (a + j = e) := by show a + j = e; omega
                  have HPE : Hid (piece s a (a + j) = piece s a e) := by show _ = _; rw [HE.out]
                  rw [HPE.out]
                  go_wp2_with (at_builtin; refine push_int Tryz.underlying22 info_int _ _ _ rfl rfl rfl hownW rfl (by omega) hbelW.size ?_; intro v1 w1 hown1 hg1 hb1)
                  go_roundw
                  case rel => exact ⟨_, _, rfl, by omega, hown1, HN, hbelW.trans hb1⟩
                  case measure => simp only [intOf]; omega
            · have hl2 := hch.out.done (by omega)
              have HL2 := Lib.hid hl2
              clear hl2
              obtain ⟨p, cp, rfl, _, _⟩ := hown.form
              go_wp2_with fail
              refine (trimmed_at out p cp wr w.heap.size wr.heap.size hown.ints).mono ?_
              rintro e w2 ⟨⟨k, hk, ht, rfl⟩, rfl⟩
              have HT := Lib.hid (OwnR.made (hown.take hk))
              clear hk
              go_wp2_with fail
              go_ret2
              exact ⟨hbel, .inl ⟨hp.out, _, rfl, by rw [← HL2.out, ← ht]; exact HT.out⟩⟩
  · have hn : Hid (¬ parsable s) := fun h => hd ⟨h.1.1, h.1.2.1⟩
    go_enter Tryz.func91, Tryz.ntmps91
    go_wp2_with fail
    refine HD.out.mono ?_
    rintro e w1 ⟨rfl, rfl⟩
    rw [decide_eq_false hd]
    go_wp2_with fail
    go_ret2
    exact ⟨Below.refl _ _, .inr ⟨hn.out, rfl⟩⟩
end Go.Proofs.YtnpfmmdekjjnjaaGreatDoor
