/- Contracts: integers and natural numbers as decimal texts. -/
import Derived.Test.YtnpfmmdekjjnjaaGreatDoorRatOk
import Derived.Test.YtnpfmmdekjjnjaaGreatDoorBuild
import Derived.Test.YtnpfmmdekjjnjaaGreatDoorAPlain
namespace Go.Proofs.YtnpfmmdekjjnjaaGreatDoor
open Go Go.RowKit Pl

/-- What the world must hold for the library: the table of powers of ten, the bound of bytealg; both in blocks below B. -/
def Std (B : Nat) (w : World) : Prop :=
  (∃ m, w.cell? ⟨0, 0, none⟩ = some (.int .i64 m)) ∧ Lib.TabIs Tryz.prog w "internal/strconv.uint64pow10" .u64 Lib.pow10Tab ∧ 6 ≤ B ∧ B ≤ w.heap.size
theorem pow10_named : Tryz.prog.globalNamed "internal/strconv.uint64pow10" = some 3 := by kernel_rfl
theorem Std.below {B : Nat} {w w' : World} (h : Std B w) (hb : Below B w w') : Std B w' := by
  obtain ⟨⟨m, hm⟩, ht, h6, hB⟩ := h
  refine ⟨⟨m, by rw [hb.cell (by show (0:Nat) < B; omega)]; exact hm⟩, ?_, h6, Nat.le_trans hB hb.size⟩
  unfold Lib.TabIs World.var? at ht ⊢
  rw [pow10_named] at ht ⊢
  simp only [Option.bind_some] at ht ⊢
  rw [hb.block _ (by omega)]
  exact ht
theorem Std.on {B : Nat} {w w' : World} (h : Std B w) (hb : Below w.heap.size w w') : Std B w' := h.below (hb.mono h.2.2.2)

theorem grow_below (os : Array Obj) (w : World) : Below w.heap.size w (Sort.grow w os) :=
  ⟨rfl, rfl, rfl, by simp [Sort.grow], fun k hk => by simp only [Sort.grow]; rw [Array.getElem?_append_left hk]⟩

theorem str_append (a b : List UInt8) : Value.string ((⟨a.toArray⟩ : ByteArray) ++ ⟨b.toArray⟩) = (Value.string ⟨(a ++ b).toArray⟩) := by
  congr 1

/-- string([]byte{y}). -/
theorem conv_one (w : World) (y : Nat) : (convert 42 9 (.slice (some ⟨w.heap.size, 0, none⟩) 1 1)).run Tryz.prog (w.alloc (.cells #[.int .u8 (y : Int)] 5)) =
    .ok (.string ⟨#[UInt8.ofNat y]⟩) (w.alloc (.cells #[.int .u8 (y : Int)] 5)) := by
  rw [run_convert_bytes_string _ _ _ 5 _ _ _ Tryz.underlying42 Tryz.underlying5 Tryz.underlying9]
  rw [run_bytesToString _ _ 1 1 [(y : Int)]]
  · rfl
  · exact run_loadCells_list (P := Tryz.prog) _ ⟨w.heap.size, 0, none⟩ [.int .u8 (y : Int)] (fun j v hv => by
      cases j with
      | zero =>
        simp at hv
        subst hv
        rw [show ((⟨w.heap.size, 0, none⟩ : Addr).add 0) = ⟨w.heap.size, 0, none⟩ from rfl, cell_of_row _ w.heap.size 0 _ 5 (0, 0) (heap_alloc_new w _)]
        rfl
      | succ j => simp at hv)

theorem itoa_nat (n : Nat) : Lib.itoa n = Lib.decDigits n := by
  unfold Lib.itoa
  rw [if_neg (by omega), Int.toNat_natCast]

theorem FormatInt_any (n : Nat) (hn : n < 1000000000) (B : Nat) (w : World) (hw : Std B w) :
    Calls Tryz.prog 130 #[.int .i64 n] w fun e w' => e = .returned ((Value.string ⟨(Lib.decDigits n).toArray⟩)) ∧ Below w.heap.size w w' := by
  have HW := Lib.hid hw
  clear hw
  go_enter Tryz.func130, Tryz.ntmps130
  go_wp2_with fail
  refine (Tryz.strconv_Itoa n (by omega) (by omega) w HW.out.2.1).mono ?_
  rintro e w1 ⟨rfl, k, os, rfl⟩
  go_wp2_with fail
  go_ret
  exact ⟨by rw [itoa_nat]; rfl, (below_drewN w k).trans ((grow_below os (w.drewN k)).mono (Nat.le_refl _))⟩

set_option maxRecDepth 100000 in
theorem sFormatInt_any (n : Nat) (hn : n < 1000000000) (w : World) :
    Calls Tryz.prog 134 #[.int .i64 n] w fun e w' => e = .returned ((Value.string ⟨(Lib.decDigits n).toArray⟩)) ∧ Below w.heap.size w w' := by
  go_enter Tryz.func134, Tryz.ntmps134
  go_wp2_with fail
  go_loopg [0, 3] n (fun k nv sv wr => ∃ s, nv = .int .i64 k ∧ sv = (Value.string ⟨(s).toArray⟩) ∧ Hid (Lib.decDigits k ++ s = Lib.decDigits n) ∧ k < 1000000000 ∧ Below w.heap.size w wr)
  case atStart => exact ⟨[], rfl, rfl, List.append_nil _, hn, Below.refl _ _⟩
  case round =>
    obtain ⟨s, rfl, rfl, hs, hk, hbel⟩ := hrel
    have hl : s.length ≤ 10 := by
      have h1 := congrArg List.length hs.out
      rw [List.length_append] at h1
      have := decDigits_len (n := n) (k := 9) (by decide) hn
      omega
    by_cases h9 : 9 < gk
    · have hc := conv_one wr (48 + gk % 10)
      rw [show ((48 + gk % 10 : Nat) : Int) = 48 + (gk : Int) % 10 by omega] at hc
      have hd : Hid (Lib.decDigits (gk / 10) ++ ([UInt8.ofNat (48 + gk % 10)] ++ s) = Lib.decDigits n) := by
        show _ = _
        rw [← hs.out, Lib.decDigits.eq_1 gk, dif_neg (by omega), List.append_assoc]
      generalize UInt8.ofNat (48 + gk % 10) = c at hc hd
      have HC := Lib.hid hc
      clear hc
      go_wp2_with fail
      rw [HC.out]
      simp only [Result.andThen]
      rw [Oper.upon_value]
      go_wp2_with fail
      go_roundg (gk / 10)
      case measure => omega
      case rel => exact ⟨[c] ++ s, by go_num, str_append [c] s, hd, by omega, hbel.alloc hbel.size _⟩
    · have hc := conv_one wr (48 + gk)
      rw [show ((48 + gk : Nat) : Int) = 48 + (gk : Int) by omega] at hc
      have hd : Hid ([UInt8.ofNat (48 + gk)] ++ s = Lib.decDigits n) := by
        show _ = _
        rw [← hs.out, Lib.decDigits.eq_1 gk, dif_pos (by omega)]
      generalize UInt8.ofNat (48 + gk) = c at hc hd
      have HC := Lib.hid hc
      clear hc
      go_wp2_with fail
      rw [HC.out]
      simp only [Result.andThen]
      rw [Oper.upon_value]
      go_wp2_with fail
      go_ret
      exact ⟨by rw [← hd.out]; exact congrArg Ending.returned (str_append [c] s), hbel.alloc hbel.size _⟩

theorem repeatL_one (c : UInt8) (k : Nat) : Lib.repeatL [c] k = List.replicate k c := by
  induction k with
  | zero => rfl
  | succ k ih => rw [Lib.repeatL, ih]; rfl

/-- PadZeros. -/
theorem PadZeros_any (n : Nat) (hn : n < 1000000000) (w : World) :
    Calls Tryz.prog 131 #[(Value.string ⟨(Lib.decDigits n).toArray⟩), .int .i64 9] w fun e w' => e = .returned ((Value.string ⟨(padded n 9).toArray⟩)) ∧ Below w.heap.size w w' := by
  have hl := decDigits_len (n := n) (k := 9) (by decide) hn
  have hp : Hid (padded n 9 = List.replicate (9 - (Lib.decDigits n).length) 48 ++ Lib.decDigits n) := rfl
  generalize Lib.decDigits n = s at *
  rcases Nat.lt_or_ge s.length 9 with h | h
  · have hr := Tryz.strings_Repeat ⟨#[48]⟩ (9 - s.length) w (by omega) (by simp [ByteArray.size]; omega)
    rw [show (((9 - s.length : Nat)) : Int) = 9 - (s.length : Int) by omega, repeatL_one] at hr
    have hrl : (List.replicate (9 - s.length) (48 : UInt8)).length ≤ 9 := by simp
    generalize List.replicate (9 - s.length) (48 : UInt8) = z at *
    have HR := Lib.hid hr
    clear hr
    go_enter Tryz.func131, Tryz.ntmps131
    go_wp2_with fail
    refine HR.out.mono ?_
    rintro e w1 ⟨rfl, hb1⟩
    go_wp2_with fail
    go_ret
    exact ⟨congrArg Ending.returned ((str_append z s).trans (by rw [hp.out])), hb1⟩
  · have h0 : Hid (padded n 9 = s) := by
      show _ = _
      rw [hp.out, show 9 - s.length = 0 by omega]
      rfl
    go_enter Tryz.func131, Tryz.ntmps131
    go_wp2_with fail
    go_ret
    exact ⟨by rw [h0.out]; rfl, Below.refl _ _⟩

theorem sPadZeros_any (n : Nat) (hn : n < 1000000000) (w : World) :
    Calls Tryz.prog 135 #[(Value.string ⟨(Lib.decDigits n).toArray⟩), .int .i64 9] w fun e w' => e = .returned ((Value.string ⟨(padded n 9).toArray⟩)) ∧ Below w.heap.size w w' := by
  have hl := decDigits_len (n := n) (k := 9) (by decide) hn
  have hp : Hid (padded n 9 = List.replicate (9 - (Lib.decDigits n).length) 48 ++ Lib.decDigits n) := rfl
  generalize Lib.decDigits n = s at *
  go_enter Tryz.func135, Tryz.ntmps135
  go_wp2_with fail
  go_loopg [0] (9 - s.length) (fun k sv wr => ∃ t, sv = .string ⟨t.toArray⟩ ∧ t.length + k = 9 ∧ Hid (List.replicate k 48 ++ t = padded n 9) ∧ wr = w)
  case atStart => exact ⟨s, rfl, by omega, hp.out.symm, rfl⟩
  case round =>
    obtain ⟨t, rfl, htk, ht, rfl⟩ := hrel
    by_cases h : t.length < 9
    · obtain ⟨k, rfl⟩ : ∃ k, gk = k + 1 := ⟨gk - 1, by omega⟩
      have ht' : Hid (List.replicate k 48 ++ ([48] ++ t) = padded n 9) := by
        show _ = _
        rw [← ht.out, List.replicate_succ', List.append_assoc]
      go_wp2_with fail
      go_roundg k
      case measure => omega
      case rel => exact ⟨[48] ++ t, str_append [48] t, by rw [List.length_append, List.length_singleton]; omega, ht', by trivial⟩
    · have hk : Hid (gk = 0) := by show gk = 0; omega
      go_wp2_with fail
      go_ret
      have e := ht.out
      rw [hk.out] at e
      exact ⟨by rw [← e]; rfl, Below.refl _ _⟩
end Go.Proofs.YtnpfmmdekjjnjaaGreatDoor
