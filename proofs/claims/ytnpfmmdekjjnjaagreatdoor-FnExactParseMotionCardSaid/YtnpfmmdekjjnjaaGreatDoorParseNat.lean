/- Contracts: reading a natural number. -/
import Derived.Test.YtnpfmmdekjjnjaaGreatDoorDigits
import Derived.Test.YtnpfmmdekjjnjaaGreatDoorAPlain
namespace Go.Proofs.YtnpfmmdekjjnjaaGreatDoor
open Go Go.RowKit Pl

/-- A row of the call's own whose block lies from lo up to hi. -/
def OwnR (w : World) (lo hi : Nat) (v : Value) (l : List Int) : Prop := OwnI 3 w lo v l ∧ ∀ g, v.ownBlock = some g → g < hi
theorem OwnI.take {e : TypeId} {w : World} {base : Nat} {p : Option Addr} {n c : Nat} {l : List Int} (h : OwnI e w base (.slice p n c) l) {k : Nat} (hk : k ≤ l.length) : OwnI e w base (.slice p k c) (l.take k) := by
  obtain ⟨h1, h2⟩ := h
  have hl : (l.take k).length = k := by rw [List.length_take]; omega
  refine ⟨by rw [List.length_map, hl, Nat.mul_one], ?_⟩
  rcases h2 with ⟨he, h0⟩ | ⟨g, cap, cur, he, hb, hg, hnc, hm, hs, ht⟩
  · injection he with e1 e2 e3
    subst e1 e2 e3
    refine .inl ⟨?_, by omega⟩
    rw [show k = 0 by omega]
  · injection he with e1 e2 e3
    subst e1 e3
    refine .inr ⟨g, c, cur, by rw [hl], hb, hg, by rw [hl]; omega, hm, hs, ?_⟩
    rw [hl, List.map_take, ← ht, List.take_take, Nat.min_eq_left (by omega), Nat.mul_one]
theorem OwnR.ints {w : World} {lo hi : Nat} {v : Value} {l : List Int} (h : OwnR w lo hi v l) : Ints w lo hi v l := by
  obtain ⟨p, c, e, h1, h2, h3, h4⟩ := h.1.ints
  refine ⟨p, c, e, h1, h2, h3, fun hl => ?_⟩
  obtain ⟨b, off, e1, e2, _, e4⟩ := h4 hl
  refine ⟨b, off, e1, e2, h.2 b ?_, e4⟩
  rw [e, e1]; rfl
theorem OwnR.below {w w' : World} {lo hi : Nat} {v : Value} {l : List Int} (h : OwnR w lo hi v l) (hb : Below w.heap.size w w') : OwnR w' lo hi v l := ⟨h.1.below hb, h.2⟩
theorem OwnR.made {w : World} {lo : Nat} {v : Value} {l : List Int} (h : OwnI 3 w lo v l) : OwnR w lo w.heap.size v l := ⟨h, fun g hg => (World.ownsRow.lt h g hg).2⟩

/-- A text that ParseNat takes. -/
def parsable (s : List UInt8) : Prop := canonN s ∧ s.length ≤ 540
/-- What ParseNat hands back. -/
def ParseNatPost (s : List UInt8) (w : World) (e : Ending) (w' : World) : Prop :=
  Below w.heap.size w w' ∧ ((parsable s ∧ ∃ v, e = .returned (.tuple #[v, .bool true]) ∧ OwnR w' w.heap.size w'.heap.size v (limbs (num s))) ∨ (¬ parsable s ∧ e = .returned (.tuple #[.slice none 0 0, .bool false])))

theorem head_at {s : List UInt8} (h : 0 < s.length) : s.head? = some (s.getD 0 0) := by
  cases s with
  | nil => simp at h
  | cons c s => rfl

theorem canon_of {s : List UInt8} {c : UInt8} (hd : isDigs s) (hh : s.head? = some c) (h : ¬ (1 < s.length ∧ c = 48)) : canonN s :=
  ⟨hd.1, hd.2, fun h1 e => h ⟨h1, by rw [hh] at e; exact Option.some.inj e⟩⟩
theorem not_canon_of {s : List UInt8} {c : UInt8} (hh : s.head? = some c) (h1 : 1 < s.length) (h : c = 48) : ¬ parsable s := fun hp => hp.1.2.2 h1 (by rw [hh, h])
theorem byte_eq {c : UInt8} : c.toNat = 48 ↔ c = 48 := by
  constructor
  · intro h; exact UInt8.toNat_inj.1 h
  · intro h; rw [h]; rfl
/-- What the loop over the chunks keeps. -/
def Chunks (s : List UInt8) (out : List Int) (z : Int) : Prop := 9 * (out.length : Int) + z = s.length ∧ (0 ≤ z → ChunkInv s out z.toNat) ∧ (z ≤ 0 → okL out ∧ (num s : Int) = val out)
theorem Chunks.start (s : List UInt8) (h : 0 < s.length) : Chunks s [] s.length :=
  ⟨by simp, fun _ => by rw [Int.toNat_natCast]; exact chunk_start s, fun h' => by omega⟩
theorem Chunks.step {s : List UInt8} {out : List Int} {e : Nat} (hd : digs s) (h : Chunks s out e) (he : 0 < e) (a : Nat) (ha : a = e - 9) : Chunks s (out ++ [(piece s a e : Int)]) ((e : Int) - 9) := by
  subst ha
  obtain ⟨h1, h2, _⟩ := h
  have h2 := h2 (by omega)
  rw [Int.toNat_natCast] at h2
  refine ⟨by rw [List.length_append, List.length_singleton]; omega, fun hz => ?_, fun hz => ?_⟩
  · rw [show ((e : Int) - 9).toNat = e - 9 by omega]
    exact chunk_step hd h2 (by omega) (by omega)
  · rcases Nat.lt_or_ge e 9 with h9 | h9
    · rw [show e - 9 = 0 by omega]
      exact chunk_last hd h2 (by omega) h9
    · have h3 := chunk_step hd h2 (by omega) h9
      have h0 : e - 9 = 0 := by omega
      rw [h0] at h3 ⊢
      exact ⟨h3.1, chunk_end h3⟩
theorem Chunks.done {s : List UInt8} {out : List Int} {z : Int} (h : Chunks s out z) (hz : z ≤ 0) : trimL out = limbs (num s) := trimL_eq (h.2.2 hz).1 (h.2.2 hz).2.symm

set_option maxHeartbeats 1000000 in
theorem sParseNat_any (s : List UInt8) (w : World) (hl : s.length ≤ 1099511627776) :
    Calls Tryz.prog 86 #[(Value.string ⟨(s).toArray⟩)] w (ParseNatPost s w) := by
  have HD := Lib.hid (sIsDigits_any s w hl)
  by_cases hd : isDigs s
  · by_cases h540 : 540 < s.length
    · have hn : Hid (¬ parsable s) := fun h => by have := h.2; omega
      go_enter Tryz.func86, Tryz.ntmps86
      go_wp2_with fail
      refine HD.out.mono ?_
      rintro e w1 ⟨rfl, rfl⟩
      rw [decide_eq_true hd]
      go_wp2_with fail
      go_ret2
      exact ⟨Below.refl _ _, .inr ⟨hn.out, rfl⟩⟩
    · have hlen : 0 < s.length := List.length_pos_iff.2 hd.1
      have hg := fun h' => byte_at hlen h'
      have hh := head_at hlen
      have HH := Lib.hid hh
      clear hh
      generalize hc : s.getD 0 0 = c at *
      have HC := Lib.hid hc
      clear hc
      have hdd := Lib.hid hd
      by_cases h1 : 1 < s.length ∧ c = 48
      · obtain ⟨h1, h48⟩ := h1
        have hn : Hid (¬ parsable s) := not_canon_of HH.out h1 h48
        have hb : ((c.toNat : Int) == 48) = true := by rw [h48]; rfl
        clear h48
        go_enter Tryz.func86, Tryz.ntmps86
        go_wp2_with fail
        refine HD.out.mono ?_
        rintro e w1 ⟨rfl, rfl⟩
        rw [decide_eq_true hd]
        clear hd
        go_wp2_with fail
        go_ret2
        exact ⟨Below.refl _ _, .inr ⟨hn.out, rfl⟩⟩
      · have hp : Hid (parsable s) := ⟨canon_of hd HH.out h1, by omega⟩
        have hown0 := OwnI.made 3 w #[] 0 (Nat.le_refl _) (Nat.zero_le _) rfl
        have hbel0 : Below w.heap.size w (w.alloc (.cells #[] 3)) := (Below.refl _ _).alloc (Nat.le_refl _) _
        have HST := Lib.hid (Chunks.start s hlen)
        have hdig := Lib.hid hd.2
        have key : ∀ P : Prop, ((s.length ≤ 1) → P) → ((1 < s.length) → ((c.toNat : Int) == 48) = false → P) → P := by
          intro P p1 p2
          rcases Nat.lt_or_ge 1 s.length with h | h
          · exact p2 h (beq_eq_false_iff_ne.2 fun e => h1 ⟨h, byte_eq.1 (by omega)⟩)
          · exact p1 h
        clear h1
        go_enter Tryz.func86, Tryz.ntmps86
        go_wp2_with fail
        refine HD.out.mono ?_
        rintro e w1 ⟨rfl, rfl⟩
        rw [decide_eq_true hd]
        clear hd
        apply key
        · intro h1
          clear key
          go_wp2_with fail
          clear hg
          go_loopw [4, 5] (fun v ev wr => ∃ (out : List Int) (z : Int), ev = .int .i64 z ∧ z ≤ s.length ∧ OwnI 3 wr w.heap.size v out ∧ Hid (Chunks s out z) ∧ Below w.heap.size w wr) (fun _ ev _ => (intOf ev).toNat)
          case atStart => exact ⟨[], s.length, rfl, Int.le_refl _, hown0, HST, hbel0⟩
          case round =>
            obtain ⟨out, z, rfl, hzl, hown, hch, hbel⟩ := hrel
            clear hown0 hbel0
            by_cases hz : 0 < z
            · obtain ⟨e, rfl⟩ := Int.eq_ofNat_of_zero_le (show 0 ≤ z by omega)
              have hol : 9 * out.length ≤ s.length := by have := hch.out.1; omega
              generalize ha : e - 9 = a
              have hnext := hch.out.step hdig.out (by omega) a ha.symm
              have HN := Lib.hid hnext
              clear hnext
              have hsm := fun i (h : i < e) => piece_small (s := s) (a := a) (i := i) hdig.out (by omega)
              have HSM := Lib.hid hsm
              clear hsm
              have hae : a ≤ e := by omega
              have ha2 : (e : Int) - 9 < 0 ∧ a = 0 ∨ (0 ≤ (e : Int) - 9 ∧ (a : Int) = e - 9) := by omega
              have HAA := Lib.hid ha
              clear ha
              rcases ha2 with ⟨hneg, ha0⟩ | ⟨hpos, ha0⟩
              · have HA0 := Lib.hid ha0
                clear ha0
                go_wp2_with fail
                go_loopw [7, 8] (fun nv iv wr' => ∃ i : Nat, a ≤ i ∧ i ≤ e ∧ iv = .int .i64 i ∧ nv = .int .i64 (piece s a i) ∧ wr' = wr) (fun _ iv _ => e - (intOf iv).toNat)
                case atStart => exact ⟨a, Nat.le_refl _, hae, by have := HA0.out; go_num, by rw [piece_zero]; rfl, rfl⟩
                case round =>
                  obtain ⟨i, hai, hie, rfl, rfl, rfl⟩ := hrel
                  rcases Nat.lt_or_ge i e with hk | hk
                  · have hsn := piece_snoc (s := s) (a := a) (i := i) hai (by omega)
                    have hpl := HSM.out i hk
                    have hg := fun h' => byte_at (s := s) (i := i) (by omega) h'
                    have hdg := digs_at hdig.out (j := i) (by omega)
                    generalize hcc : s.getD i 0 = cc at *
                    have HCC := Lib.hid hcc
                    clear hcc
                    generalize hpp : piece s a i = pp at *
                    have HPP := Lib.hid hpp
                    clear hpp
                    have HSN := Lib.hid hsn
                    clear hsn
                    go_wp2_with fail
                    go_roundw
                    case rel => exact ⟨i + 1, by omega, hk, by go_num, by rw [HSN.out]; go_num, by trivial⟩
                    case measure => simp only [intOf]; omega
                  · obtain rfl : i = e := by omega
                    go_wp2_with (at_builtin; refine push_int Tryz.underlying22 info_int _ _ _ rfl rfl rfl hown rfl (by omega) hbel.size ?_; intro v1 w1 hown1 hg1 hb1)
                    go_roundw
                    case rel => exact ⟨_, _, rfl, by omega, hown1, HN, hbel.trans hb1⟩
                    case measure => simp only [intOf]; omega
              · exfalso; omega
            · have hl2 := hch.out.done (by omega)
              have HL2 := Lib.hid hl2
              clear hl2
              obtain ⟨p, cp, rfl, _, _⟩ := hown.form
              go_wp2_with fail
              refine (l02Trim_at out p cp wr w.heap.size wr.heap.size hown.ints).mono ?_
              rintro e w2 ⟨⟨k, hk, ht, rfl⟩, rfl⟩
              have HT := Lib.hid (OwnR.made (hown.take hk))
              clear hk
              go_wp2_with fail
              go_ret2
              exact ⟨hbel, .inl ⟨hp.out, _, rfl, by rw [← HL2.out, ← ht]; exact HT.out⟩⟩
        · intro h1 hb
          clear key
          go_wp2_with fail
          clear hg
          go_loopw [4, 5] (fun v ev wr => ∃ (out : List Int) (z : Int), ev = .int .i64 z ∧ z ≤ s.length ∧ OwnI 3 wr w.heap.size v out ∧ Hid (Chunks s out z) ∧ Below w.heap.size w wr) (fun _ ev _ => (intOf ev).toNat)
          case atStart => exact ⟨[], s.length, rfl, Int.le_refl _, hown0, HST, hbel0⟩
          case round =>
            obtain ⟨out, z, rfl, hzl, hown, hch, hbel⟩ := hrel
            clear hown0 hbel0
            by_cases hz : 0 < z
            · obtain ⟨e, rfl⟩ := Int.eq_ofNat_of_zero_le (show 0 ≤ z by omega)
              have hol : 9 * out.length ≤ s.length := by have := hch.out.1; omega
              generalize ha : e - 9 = a
              have hnext := hch.out.step hdig.out (by omega) a ha.symm
              have HN := Lib.hid hnext
              clear hnext
              have hsm := fun i (h : i < e) => piece_small (s := s) (a := a) (i := i) hdig.out (by omega)
              have HSM := Lib.hid hsm
              clear hsm
              have hae : a ≤ e := by omega
              have ha2 : (e : Int) - 9 < 0 ∧ a = 0 ∨ (0 ≤ (e : Int) - 9 ∧ (a : Int) = e - 9) := by omega
              have HAA := Lib.hid ha
              clear ha
              rcases ha2 with ⟨hneg, ha0⟩ | ⟨hpos, ha0⟩
              · have HA0 := Lib.hid ha0
                clear ha0
                go_wp2_with fail
                go_loopw [7, 8] (fun nv iv wr' => ∃ i : Nat, a ≤ i ∧ i ≤ e ∧ iv = .int .i64 i ∧ nv = .int .i64 (piece s a i) ∧ wr' = wr) (fun _ iv _ => e - (intOf iv).toNat)
                case atStart => exact ⟨a, Nat.le_refl _, hae, by have := HA0.out; go_num, by rw [piece_zero]; rfl, rfl⟩
                case round =>
                  obtain ⟨i, hai, hie, rfl, rfl, rfl⟩ := hrel
                  rcases Nat.lt_or_ge i e with hk | hk
                  · have hsn := piece_snoc (s := s) (a := a) (i := i) hai (by omega)
                    have hpl := HSM.out i hk
                    have hg := fun h' => byte_at (s := s) (i := i) (by omega) h'
                    have hdg := digs_at hdig.out (j := i) (by omega)
                    generalize hcc : s.getD i 0 = cc at *
                    have HCC := Lib.hid hcc
                    clear hcc
                    generalize hpp : piece s a i = pp at *
                    have HPP := Lib.hid hpp
                    clear hpp
                    have HSN := Lib.hid hsn
                    clear hsn
                    go_wp2_with fail
                    go_roundw
                    case rel => exact ⟨i + 1, by omega, hk, by go_num, by rw [HSN.out]; go_num, by trivial⟩
                    case measure => simp only [intOf]; omega
                  · obtain rfl : i = e := by omega
                    go_wp2_with (at_builtin; refine push_int Tryz.underlying22 info_int _ _ _ rfl rfl rfl hown rfl (by omega) hbel.size ?_; intro v1 w1 hown1 hg1 hb1)
                    go_roundw
                    case rel => exact ⟨_, _, rfl, by omega, hown1, HN, hbel.trans hb1⟩
                    case measure => simp only [intOf]; omega
              · have HA0 := Lib.hid ha0
                clear ha0
                go_wp2_with fail
                go_loopw [7, 8] (fun nv iv wr' => ∃ i : Nat, a ≤ i ∧ i ≤ e ∧ iv = .int .i64 i ∧ nv = .int .i64 (piece s a i) ∧ wr' = wr) (fun _ iv _ => e - (intOf iv).toNat)
                case atStart => exact ⟨a, Nat.le_refl _, hae, by have := HA0.out; go_num, by rw [piece_zero]; rfl, rfl⟩
                case round =>
                  obtain ⟨i, hai, hie, rfl, rfl, rfl⟩ := hrel
                  rcases Nat.lt_or_ge i e with hk | hk
                  · have hsn := piece_snoc (s := s) (a := a) (i := i) hai (by omega)
                    have hpl := HSM.out i hk
                    have hg := fun h' => byte_at (s := s) (i := i) (by omega) h'
                    have hdg := digs_at hdig.out (j := i) (by omega)
                    generalize hcc : s.getD i 0 = cc at *
                    have HCC := Lib.hid hcc
                    clear hcc
                    generalize hpp : piece s a i = pp at *
                    have HPP := Lib.hid hpp
                    clear hpp
                    have HSN := Lib.hid hsn
                    clear hsn
                    go_wp2_with fail
                    go_roundw
                    case rel => exact ⟨i + 1, by omega, hk, by go_num, by rw [HSN.out]; go_num, by trivial⟩
                    case measure => simp only [intOf]; omega
                  · obtain rfl : i = e := by omega
                    go_wp2_with (at_builtin; refine push_int Tryz.underlying22 info_int _ _ _ rfl rfl rfl hown rfl (by omega) hbel.size ?_; intro v1 w1 hown1 hg1 hb1)
                    go_roundw
                    case rel => exact ⟨_, _, rfl, by omega, hown1, HN, hbel.trans hb1⟩
                    case measure => simp only [intOf]; omega
            · have hl2 := hch.out.done (by omega)
              have HL2 := Lib.hid hl2
              clear hl2
              obtain ⟨p, cp, rfl, _, _⟩ := hown.form
              go_wp2_with fail
              refine (l02Trim_at out p cp wr w.heap.size wr.heap.size hown.ints).mono ?_
              rintro e w2 ⟨⟨k, hk, ht, rfl⟩, rfl⟩
              have HT := Lib.hid (OwnR.made (hown.take hk))
              clear hk
              go_wp2_with fail
              go_ret2
              exact ⟨hbel, .inl ⟨hp.out, _, rfl, by rw [← HL2.out, ← ht]; exact HT.out⟩⟩
  · have hn : Hid (¬ parsable s) := fun h => hd ⟨h.1.1, h.1.2.1⟩
    go_enter Tryz.func86, Tryz.ntmps86
    go_wp2_with fail
    refine HD.out.mono ?_
    rintro e w1 ⟨rfl, rfl⟩
    rw [decide_eq_false hd]
    go_wp2_with fail
    go_ret2
    exact ⟨Below.refl _ _, .inr ⟨hn.out, rfl⟩⟩
end Go.Proofs.YtnpfmmdekjjnjaaGreatDoor
