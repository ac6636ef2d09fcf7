/- Contracts of the laws' own helpers on lists of steps: eqStepS. -/
import Derived.Test.YtnpfmmdekjjnjaaGreatDoorMotion
namespace Go.Proofs.YtnpfmmdekjjnjaaGreatDoor
open Go Go.RowKit Pl

theorem isD_same {x : StepT} {d d' : StepD} (h : isD x d) (h' : isD x d') : d.z = d'.z ∧ d.sx = d'.sx ∧ d.sy = d'.sy ∧ d.l1 = d'.l1 ∧ d.l2 = d'.l2 ∧ d.l3 = d'.l3 ∧ d.l4 = d'.l4 := by
  obtain ⟨a1, a2, a3, a4, a5, a6, a7⟩ := h
  obtain ⟨b1, b2, b3, b4, b5, b6, b7⟩ := h'
  exact ⟨a1.trans b1.symm, a2.trans b2.symm, a3.trans b3.symm, a4.trans b4.symm, a5.trans b5.symm, a6.trans b6.symm, a7.trans b7.symm⟩

set_option maxHeartbeats 2000000 in
set_option maxRecDepth 100000 in
theorem eqStepS_any (l : List StepT) (ds ds' : List StepD) (v v' : Value) (lo hi lo' hi' : Nat) (w : World) (h : Steps w lo hi v ds) (h' : Steps w lo' hi' v' ds') (hd : AllD l ds) (hd' : AllD l ds') :
    Calls Tryz.prog 27 #[v, v'] w fun e w' => e = .returned (.bool true) ∧ Below w.heap.size w w' := by
  have hlen := hd.len
  have hlen' := hd'.len
  obtain ⟨po, co, rfl, hc1, hc2⟩ := h.form
  obtain ⟨po', co', rfl, hc1', hc2'⟩ := h'.form
  unfold maxLen at hc2 hc2'
  rw [← hlen] at hc1
  rw [← hlen'] at hc1'
  have HH := Lib.hid h
  have HH' := Lib.hid h'
  have HD := Lib.hid hd
  have HD' := Lib.hid hd'
  have HL := Lib.hid hlen
  have HL' := Lib.hid hlen'
  have HB := Lib.hid (Below.refl w.heap.size w)
  rw [← hlen, ← hlen']
  clear h h' hd hd' hlen hlen'
  generalize hn : l.length = n at *
  have HN := Lib.hid hn
  clear hn
  have hnn : ((n : Int) != n) = false := by simp
  go_enter Tryz.func27, Tryz.ntmps27
  go_wp2_with fail
  go_loopw [5] (fun iv wr => ∃ i : Nat, iv = .int .i64 i ∧ i ≤ n ∧ Hid (Below w.heap.size w wr)) (fun iv _ => n - (intOf iv).toNat)
  case atStart => exact ⟨0, rfl, Nat.zero_le _, HB.out⟩
  case round =>
    obtain ⟨i, rfl, hi, HBL⟩ := hrel
    rcases Nat.lt_or_ge i n with hk | hk
    · have hil : i < l.length := by rw [HN.out]; exact hk
      obtain ⟨d, hdi, hisd⟩ := HD.out.at_ hil
      obtain ⟨d', hdi', hisd'⟩ := HD'.out.at_ hil
      have hsr := HH.out.below HBL.out
      have hsr' := HH'.out.below HBL.out
      obtain ⟨g, c, hv, hg1, hg2, hcell, _⟩ := hsr.cell hdi
      obtain ⟨g', c', hv', hg1', hg2', hcell', _⟩ := hsr'.cell hdi'
      obtain ⟨_, _, _, _, hq⟩ := hsr.2.at_ hdi
      obtain ⟨_, _, _, _, hq'⟩ := hsr'.2.at_ hdi'
      rw [← HL.out] at hv
      rw [← HL'.out] at hv'
      injection hv with hv _ hv2
      injection hv' with hv' _ hv2'
      subst hv hv2 hv' hv2'
      obtain ⟨s1, s2, s3, s4, s5, s6, s7⟩ := isD_same hisd hisd'
      obtain ⟨z, sx, sy, a, b, c1, d1, l1, l2, l3, l4⟩ := d
      obtain ⟨z', sx', sy', a', b', c1', d1', l1', l2', l3', l4'⟩ := d'
      simp only at s1 s2 s3 s4 s5 s6 s7 hq hq' hcell hcell'
      subst s1 s2 s3 s4 s5 s6 s7
      have s1 : Same wr a a' := ⟨l1, hq.ints.1, hq'.ints.1⟩
      have s2 : Same wr b b' := ⟨l2, hq.ints.2.1, hq'.ints.2.1⟩
      have s3 : Same wr c1 c1' := ⟨l3, hq.ints.2.2.1, hq'.ints.2.2.1⟩
      have s4 : Same wr d1 d1' := ⟨l4, hq.ints.2.2.2, hq'.ints.2.2.2⟩
      have HC := Lib.hid (fun (W : World) (hW : Below wr.heap.size wr W) => eqStep_any z sx sy a b c1 d1 a' b' c1' d1' W (s1.on hW) (s2.on hW) (s3.on hW) (s4.on hW))
      clear s1 s2 s3 s4
      obtain ⟨_, _, _, _, _, _, _, _, _, _, _, _, rfl, rfl, rfl, rfl⟩ := hq.form
      obtain ⟨_, _, _, _, _, _, _, _, _, _, _, _, rfl, rfl, rfl, rfl⟩ := hq'.form
      have e0 := hcell 0 (by decide)
      have e1 := hcell 1 (by decide)
      have e2 := hcell 2 (by decide)
      have e3 := hcell 3 (by decide)
      have e4 := hcell 4 (by decide)
      have e5 := hcell 5 (by decide)
      have e6 := hcell 6 (by decide)
      have f0 := hcell' 0 (by decide)
      have f1 := hcell' 1 (by decide)
      have f2 := hcell' 2 (by decide)
      have f3 := hcell' 3 (by decide)
      have f4 := hcell' 4 (by decide)
      have f5 := hcell' 5 (by decide)
      have f6 := hcell' 6 (by decide)
      simp only [StepD.cells, List.getElem?_cons_zero, List.getElem?_cons_succ, Nat.add_zero] at e0 e1 e2 e3 e4 e5 e6 f0 f1 f2 f3 f4 f5 f6
      clear hsr hsr' hcell hcell' hq hq' hdi hdi' hisd hisd'
      have hil : (i : Int) < n := by omega
      have hA : Below wr.heap.size wr wr := Below.refl _ _
      go_wp2_with fail
      go_region_with (go_at_call 14
                      refine (HC.out _ ?_).mono ?_
                      · first | exact hA.drew | exact hA
                      rintro e w2 ⟨rfl, hb2⟩
                      have HB2 : Hid (Below w.heap.size w w2) := by
                        first | exact HBL.out.trans ((hA.drew.trans (hb2.mono hA.drew.size)).mono HBL.out.size) | exact HBL.out.trans (hb2.mono HBL.out.size)
                      clear hb2)
      all_goals
        clear HC
        go_wp2_with fail
        go_roundw
        case rel => exact ⟨i + 1, by go_num, hk, HB2.out⟩
        case measure => simp only [intOf]; omega
    · have hnl : ¬ ((i : Int) < n) := by omega
      go_wp2_with fail
      go_ret
      exact ⟨rfl, HBL.out⟩
end Go.Proofs.YtnpfmmdekjjnjaaGreatDoor

/- Contracts of the laws' own helpers on lists of steps: markStepS. -/
namespace Go.Proofs.YtnpfmmdekjjnjaaGreatDoor
open Go Go.RowKit Pl

/-- A step behind its marks. -/
def markD (k : Nat) (x : StepD) : StepD :=
  { x with z := k, sx := ((k : Int) + 1) % 3 == 0, l1 := marks (k + 2) x.l1.length, l2 := marks (k + 2 + x.l1.length) x.l2.length, sy := ((k + 2 + x.l1.length + x.l2.length : Nat) : Int) % 3 == 0,
           l3 := marks (k + 2 + x.l1.length + x.l2.length + 1) x.l3.length, l4 := marks (k + 2 + x.l1.length + x.l2.length + 1 + x.l3.length) x.l4.length }
def markEnd (k : Nat) : List StepD → Nat
  | [] => k
  | x :: r => markEnd (k + 2 + x.l1.length + x.l2.length + 1 + x.l3.length + x.l4.length) r
def markAll (k : Nat) : List StepD → List StepD
  | [] => []
  | x :: r => markD k x :: markAll (k + 2 + x.l1.length + x.l2.length + 1 + x.l3.length + x.l4.length) r
theorem markEnd_snoc (x : StepD) : ∀ (k : Nat) (l : List StepD), markEnd k (l ++ [x]) = markEnd k l + 2 + x.l1.length + x.l2.length + 1 + x.l3.length + x.l4.length
  | _, [] => rfl
  | _, _ :: l => markEnd_snoc x _ l
theorem markAll_snoc (x : StepD) : ∀ (k : Nat) (l : List StepD), markAll k (l ++ [x]) = markAll k l ++ [markD (markEnd k l) x]
  | _, [] => rfl
  | _, _ :: l => by simp only [List.cons_append, markAll, markEnd, markAll_snoc x _ l]
theorem markAll_len : ∀ (k : Nat) (l : List StepD), (markAll k l).length = l.length
  | _, [] => rfl
  | _, _ :: l => by simp only [markAll, List.length_cons, markAll_len _ l]
/-- Every list of a step is short. -/
def shortD (x : StepD) : Prop := x.l1.length ≤ 60 ∧ x.l2.length ≤ 60 ∧ x.l3.length ≤ 60 ∧ x.l4.length ≤ 60
theorem markEnd_le : ∀ (k : Nat) (l : List StepD), (∀ x ∈ l, shortD x) → markEnd k l ≤ k + 243 * l.length
  | _, [], _ => by simp [markEnd]
  | k, y :: l, h => by
    have h1 := h y List.mem_cons_self
    have h2 := markEnd_le (k + 2 + y.l1.length + y.l2.length + 1 + y.l3.length + y.l4.length) l fun x hx => h x (List.mem_cons_of_mem _ hx)
    obtain ⟨a, b, c, d⟩ := h1
    simp only [markEnd, List.length_cons]
    omega
theorem cells_set : ∀ (ds : List StepD) (i : Nat) (x y : StepD), ds[i]? = some x → y.a = x.a → y.b = x.b → y.c = x.c → y.d = x.d →
    (ds.set i y).flatMap StepD.cells = (((ds.flatMap StepD.cells).set (i * 7) (.int .i64 y.z)).set (i * 7 + 1) (.bool y.sx)).set (i * 7 + 4) (.bool y.sy)
  | [], i, x, y, h, _, _, _, _ => by simp at h
  | u :: r, 0, x, y, h, h1, h2, h3, h4 => by
    simp only [List.getElem?_cons_zero, Option.some.injEq] at h
    subst h
    simp [StepD.cells, h1, h2, h3, h4]
  | u :: r, i + 1, x, y, h, h1, h2, h3, h4 => by
    rw [List.getElem?_cons_succ] at h
    have ih := cells_set r i x y h h1 h2 h3 h4
    rw [List.set_cons_succ, List.flatMap_cons, List.flatMap_cons, ih]
    have hu : u.cells.length = 7 := rfl
    rw [show (i + 1) * 7 = u.cells.length + i * 7 by rw [hu]; omega, show u.cells.length + i * 7 + 1 = u.cells.length + (i * 7 + 1) by omega, show u.cells.length + i * 7 + 4 = u.cells.length + (i * 7 + 4) by omega]
    simp only [List.set_append, Nat.not_lt.2 (Nat.le_add_right _ _), if_false, Nat.add_sub_cancel_left]
/-- A store into a row of the call's own. -/
theorem row_store {w : World} {base s n : Nat} {e : TypeId} {v : Value} {xs : List Value} (h : w.ownsRow base e s v n xs) {j : Nat} (hj : j < xs.length) :
    ∃ g c cur, v = .slice (some ⟨g, 0, none⟩) n c ∧ base ≤ g ∧ w.heap[g]? = some (.cells cur e (0, 0)) ∧ w.cell? ⟨g, j, none⟩ = xs[j]? ∧ w.frozen? ⟨g, j, none⟩ = false ∧
      ∀ y, (w.setCell ⟨g, j, none⟩ y).ownsRow base e s v n (xs.set j y) := by
  rcases h.2 with ⟨rfl, h0⟩ | ⟨g, cap, cur, rfl, hb, hg, hnc, hm, hs, htake⟩
  · have := h.1
    rw [h0] at this
    omega
  · have hl := h.1
    have hcur : cur[j]? = xs[j]? := by rw [← htake, List.getElem?_take, if_pos (by omega), Array.getElem?_toList]
    refine ⟨g, cap, cur, rfl, hb, hg, by rw [cell_of_row w g j cur e (0, 0) hg]; exact hcur, by simp [World.frozen?, hg], fun y => ?_⟩
    refine ⟨by rw [List.length_set]; exact hl, .inr ⟨g, cap, cur.setIfInBounds j y, rfl, hb, ?_, hnc, hm, by simpa using hs, ?_⟩⟩
    · simp [World.setCell, Array.getElem?_modify, hg]
    · rw [Array.toList_setIfInBounds, List.take_set, htake]
theorem OwnR.setStep {w : World} {lo hi : Nat} {u : Value} {l : List Int} (h : OwnR w lo hi u l) {g : Nat} {cur : Array Value} {fr : Nat × Nat} (hg : w.heap[g]? = some (.cells cur 37 fr)) (j : Nat) (y : Value) : OwnR (w.setCell ⟨g, j, none⟩ y) lo hi u l := by
  refine ⟨h.1.kept (set_grown w ⟨g, j, none⟩ y) ?_, h.2⟩
  rcases h.1.2 with ⟨rfl, _⟩ | ⟨g', cap, cur', rfl, _, hg', _⟩
  · exact .inl rfl
  · right
    intro e
    simp only [Value.ownBlock, Option.some.injEq] at e
    subst e
    rw [hg] at hg'
    injection hg' with hg'
    injection hg' with _ hg' _
    exact step_int hg'.symm
/-- Lists of integers outside of the range are as they were. -/
def KeptInt (lo hi : Nat) (w w' : World) : Prop := ∀ (k : Nat) (cs : Array Value) (f : Nat × Nat), w.heap[k]? = some (Obj.cells cs 3 f) → (k < lo ∨ hi ≤ k) → w'.heap[k]? = w.heap[k]?
theorem KeptInt.trans {lo hi : Nat} {w w' w'' : World} (h : KeptInt lo hi w w') (h' : KeptInt lo hi w' w'') : KeptInt lo hi w w'' := fun k cs f hk hd => (h' k cs f ((h k cs f hk hd).trans hk) hd).trans (h k cs f hk hd)
theorem KeptInt.set {lo hi : Nat} {w : World} {g : Nat} {cur : Array Value} {fr : Nat × Nat} (hg : w.heap[g]? = some (.cells cur 37 fr)) (j : Nat) (y : Value) : KeptInt lo hi w (w.setCell ⟨g, j, none⟩ y) := by
  intro k cs f hk _
  refine Below.heap_setCell w ⟨g, j, none⟩ y k ?_
  rintro rfl
  rw [hk] at hg
  injection hg with hg
  injection hg with _ hg _
  exact step_int hg
theorem KeptInt.within {lo hi lo' hi' : Nat} {w w' : World} (h : Within lo' hi' w w') (h1 : lo ≤ lo') (h2 : hi' ≤ hi) : KeptInt lo hi w w' := fun k _ _ hk hd => h.block k (Array.getElem?_eq_some_iff.1 hk).1 (by omega)
theorem OwnR.keptInt {w w' : World} {lo hi lo' hi' : Nat} {u : Value} {l : List Int} (h : OwnR w lo' hi' u l) (hk : KeptInt lo hi w w') (hd : hi' ≤ lo ∨ hi ≤ lo') : OwnR w' lo' hi' u l := by
  refine ⟨⟨h.1.1, ?_⟩, h.2⟩
  rcases h.1.2 with ⟨h1, h2⟩ | ⟨g, cap, cur, h1, h2, h3, h4⟩
  · exact .inl ⟨h1, h2⟩
  · have h5 := h.2 g (by rw [h1]; rfl)
    exact .inr ⟨g, cap, cur, h1, h2, (hk g cur _ h3 (by omega)).trans h3, h4⟩
theorem Quad.keptInt {w w' : World} {lo hi lo' hi' : Nat} {a b c d : Value} {l1 l2 l3 l4 : List Int} (h : Quad w lo' hi' a b c d l1 l2 l3 l4) (hk : KeptInt lo hi w w') (hd : hi' ≤ lo ∨ hi ≤ lo') : Quad w' lo' hi' a b c d l1 l2 l3 l4 := by
  obtain ⟨m1, m2, m3, h1, h2, h3, h4, o1, o2, o3, o4⟩ := h
  exact ⟨m1, m2, m3, h1, h2, h3, h4, o1.keptInt hk (by omega), o2.keptInt hk (by omega), o3.keptInt hk (by omega), o4.keptInt hk (by omega)⟩
theorem Inner.keptInt {w w' : World} {lo hi : Nat} : ∀ {ds : List StepD} {lo' hi' : Nat}, Inner w lo' hi' ds → KeptInt lo hi w w' → (hi' ≤ lo ∨ hi ≤ lo') → Inner w' lo' hi' ds
  | [], _, _, h, _, _ => h
  | _ :: _, _, _, ⟨m, h1, h2, h3, h4⟩, hk, hd => ⟨m, h1, h2, h3.keptInt hk (by have := h4.le; omega), Inner.keptInt h4 hk (by omega)⟩
/-- One step's slices are changed. -/
theorem Inner.update {w : World} : ∀ {ds : List StepD} {lo hi i : Nat} {d : StepD}, Inner w lo hi ds → ds[i]? = some d →
    ∃ lo' hi', lo ≤ lo' ∧ hi' ≤ hi ∧ Quad w lo' hi' d.a d.b d.c d.d d.l1 d.l2 d.l3 d.l4 ∧ ∀ (w' : World) (d' : StepD), Quad w' lo' hi' d'.a d'.b d'.c d'.d d'.l1 d'.l2 d'.l3 d'.l4 → KeptInt lo' hi' w w' → Inner w' lo hi (ds.set i d')
  | x :: r, lo, hi, 0, d, ⟨m, h1, h2, h3, h4⟩, h => by
    simp only [List.getElem?_cons_zero, Option.some.injEq] at h
    subst h
    exact ⟨lo, m, Nat.le_refl _, h2, h3, fun w' d' hq hk => ⟨m, h1, h2, hq, h4.keptInt hk (.inr (Nat.le_refl _))⟩⟩
  | x :: r, lo, hi, i + 1, d, ⟨m, h1, h2, h3, h4⟩, h => by
    rw [List.getElem?_cons_succ] at h
    obtain ⟨lo', hi', e1, e2, e3, e4⟩ := Inner.update h4 h
    exact ⟨lo', hi', Nat.le_trans h1 e1, e2, e3, fun w' d' hq hk => ⟨m, h1, h2, h3.keptInt hk (.inl e1), e4 w' d' hq hk⟩⟩
end Go.Proofs.YtnpfmmdekjjnjaaGreatDoor

/- Contracts of the laws' own helpers on lists of steps: markStepS. -/
namespace Go.Proofs.YtnpfmmdekjjnjaaGreatDoor
open Go Go.RowKit Pl

theorem marked_at {k0 : Nat} {ds : List StepD} {i : Nat} {x : StepD} (hx : ds[i]? = some x) : (markAll k0 (ds.take i) ++ ds.drop i)[i]? = some x ∧
    (markAll k0 (ds.take i) ++ ds.drop i).set i (markD (markEnd k0 (ds.take i)) x) = markAll k0 (ds.take (i + 1)) ++ ds.drop (i + 1) ∧ markEnd k0 (ds.take (i + 1)) = markEnd k0 (ds.take i) + 2 + x.l1.length + x.l2.length + 1 + x.l3.length + x.l4.length := by
  have hi := (List.getElem?_eq_some_iff.1 hx).1
  have hl : (markAll k0 (ds.take i)).length = i := by rw [markAll_len, List.length_take]; omega
  have hd : ds.drop i = x :: ds.drop (i + 1) := by
    rw [List.drop_eq_getElem_cons hi, (List.getElem?_eq_some_iff.1 hx).2]
  have ht : ds.take (i + 1) = ds.take i ++ [x] := by rw [List.take_add_one, hx]; rfl
  refine ⟨?_, ?_, ?_⟩
  · rw [List.getElem?_append_right (by omega), hl, Nat.sub_self, hd]; rfl
  · rw [List.set_append_right _ _ (by omega), hl, Nat.sub_self, hd, List.set_cons_zero, ht, markAll_snoc, List.append_assoc]; rfl
  · rw [ht, markEnd_snoc]

def MarkS (k : Nat) (l : List Int) (lo hi : Nat) (va : Value) (w : World) (e : Ending) (w' : World) : Prop :=
  e = .returned (.int .i64 ((k + l.length : Nat) : Int)) ∧ OwnR w' lo hi va (marks k l.length) ∧ Within lo hi w w' ∧ (∀ (b n : Nat) (v : Value) (xs : List Value), w.ownsRow b 37 7 v n xs → w'.ownsRow b 37 7 v n xs) ∧ w'.heap.size = w.heap.size
theorem markIntS_s (k : Nat) (l : List Int) (lo hi : Nat) (va : Value) (w : World) (h : OwnR w lo hi va l) (hk : k + l.length ≤ 1099511627776) :
    Calls Tryz.prog 59 #[va, .int .i64 k] w (MarkS k l lo hi va w) :=
  (markIntS_any k l lo va w h.1 hk).mono fun _ _ ⟨he, ho, hg, hs⟩ => ⟨he, ⟨ho, h.2⟩, Within.of_grown h hg, fun _ _ _ _ hr => World.ownsRow.kept hr hg (rows_apart hr h.1 (fun e => step_int e.symm)), hs⟩
theorem row_look {w : World} {base s n c g : Nat} {e : TypeId} {xs : List Value} (h : w.ownsRow base e s (.slice (some ⟨g, 0, none⟩) n c) n xs) {j : Nat} (hj : j < xs.length) : w.cell? ⟨g, j, none⟩ = xs[j]? ∧ w.frozen? ⟨g, j, none⟩ = false ∧ ∃ cur, w.heap[g]? = some (.cells cur e (0, 0)) := by
  obtain ⟨g', c', cur, hv, _, hg, hc, hf, _⟩ := row_store h hj
  injection hv with hv _ _
  injection hv with hv
  injection hv with hv _ _
  subst hv
  exact ⟨hc, hf, cur, hg⟩
theorem row_put {w : World} {base s n c g : Nat} {e : TypeId} {xs : List Value} (h : w.ownsRow base e s (.slice (some ⟨g, 0, none⟩) n c) n xs) {j : Nat} (hj : j < xs.length) (y : Value) : (w.setCell ⟨g, j, none⟩ y).ownsRow base e s (.slice (some ⟨g, 0, none⟩) n c) n (xs.set j y) := by
  obtain ⟨g', c', cur, hv, _, hg, hc, hf, hst⟩ := row_store h hj
  injection hv with hv _ _
  injection hv with hv
  injection hv with hv _ _
  subst hv
  exact hst y

set_option maxHeartbeats 1000000 in
set_option maxRecDepth 100000 in
theorem markStepS_any (k0 : Nat) (ds : List StepD) (v : Value) (lo hi : Nat) (w : World) (h : Steps w lo hi v ds) (hsh : ∀ x ∈ ds, shortD x) (hn60 : ds.length ≤ 60) (hk : k0 ≤ 1000) (hhi : hi ≤ w.heap.size) :
    Calls Tryz.prog 28 #[v, .int .i64 k0] w fun e w' => e = .returned (.int .i64 (markEnd k0 ds : Nat)) ∧ Steps w' lo hi v (markAll k0 ds) ∧ Below lo w w' ∧ hi ≤ w'.heap.size := by
  obtain ⟨po, co, rfl, hc1, hc2⟩ := h.form
  have HH := Lib.hid h
  have HSH := Lib.hid hsh
  have HB := Lib.hid (Below.refl lo w)
  clear h hsh
  generalize hn : ds.length = n at *
  have HN := Lib.hid hn
  clear hn
  go_enter Tryz.func28, Tryz.ntmps28
  go_wp2_with fail
  go_loopw [1, 5] (fun kv iv wr => ∃ i q : Nat, iv = .int .i64 i ∧ i ≤ n ∧ kv = .int .i64 q ∧ q ≤ 1000 + 243 * i ∧ Hid (q = markEnd k0 (ds.take i)) ∧ Hid (Steps wr lo hi (.slice po n co) (markAll k0 (ds.take i) ++ ds.drop i)) ∧ Hid (Below lo w wr) ∧ hi ≤ wr.heap.size) (fun _ iv _ => n - (intOf iv).toNat)
  case atStart => exact ⟨0, k0, rfl, Nat.zero_le _, rfl, by omega, rfl, HH.out, HB.out, hhi⟩
  case round =>
    obtain ⟨i, q, rfl, hi', rfl, hqb, HQ, HS, HBL, hhr⟩ := hrel
    clear HH HB
    rcases Nat.lt_or_ge i n with hlt | hge
    · have hil : i < ds.length := by rw [HN.out]; exact hlt
      obtain ⟨x, hx⟩ : ∃ x, ds[i]? = some x := ⟨ds[i], List.getElem?_eq_getElem hil⟩
      have hxs := HSH.out x (List.mem_of_getElem? hx)
      obtain ⟨hat, hset, hend⟩ := marked_at (k0 := k0) hx
      rw [← HQ.out] at hset hend
      obtain ⟨lo', hi2, hl1, hl2, ⟨m1, m2, m3, g1, g2, g3, g4, o1, o2, o3, o4⟩, hupd⟩ := HS.out.2.update hat
      have hcs := cells_set _ i x (markD q x) hat rfl rfl rfl rfl
      have hrow := HS.out.1
      have hcell := HS.out.cell hat
      have hlen := StepD.cells_len (markAll k0 (ds.take i) ++ ds.drop i)
      have hll : (markAll k0 (ds.take i) ++ ds.drop i).length = n := by
        rw [List.length_append, markAll_len, List.length_take, List.length_drop, HN.out]; omega
      rw [hll] at hrow hlen
      generalize (markAll k0 (ds.take i) ++ ds.drop i) = L at *
      generalize hxsL : L.flatMap StepD.cells = xs at *
      obtain ⟨g, c, cur, hv, hgl, hgr, -, -, -⟩ := row_store hrow (j := i * 7) (by omega)
      injection hv with hv _ hv2
      subst hv hv2
      obtain ⟨z, sx, sy, a, b, c1, d1, l1, l2, l3, l4⟩ := x
      have hxa : ∀ j, j < 7 → xs[i * 7 + j]? = ([.int .i64 z, .bool sx, a, b, .bool sy, c1, d1] : List Value)[j]? := fun j hj => by rw [← hxsL]; exact StepD.cells_at L hat hj
      simp only at o1 o2 o3 o4 hupd hset hend hcs
      obtain ⟨hs1, hs2, hs3, hs4⟩ := hxs
      simp only at hs1 hs2 hs3 hs4
      have hbx : i * 7 + 6 < xs.length := by omega
      -- the worlds of the two first stores
      have R1 := row_put hrow (j := i * 7) (by omega) (.int .i64 q)
      have R2 := row_put R1 (j := i * 7 + 1) (by rw [List.length_set]; omega) (.bool (((q : Int) + 1) % 3 == 0))
      obtain ⟨-, -, cur1, hg1⟩ := row_look R1 (j := i * 7) (by rw [List.length_set]; omega)
      have K2 := (KeptInt.set (lo := lo') (hi := hi2) hgr (i * 7) (.int .i64 q)).trans (KeptInt.set hg1 (i * 7 + 1) (.bool (((q : Int) + 1) % 3 == 0)))
      have o1B := (o1.setStep hgr (i * 7) (.int .i64 q)).setStep hg1 (i * 7 + 1) (.bool (((q : Int) + 1) % 3 == 0))
      have o2B := (o2.setStep hgr (i * 7) (.int .i64 q)).setStep hg1 (i * 7 + 1) (.bool (((q : Int) + 1) % 3 == 0))
      have o3B := (o3.setStep hgr (i * 7) (.int .i64 q)).setStep hg1 (i * 7 + 1) (.bool (((q : Int) + 1) % 3 == 0))
      have o4B := (o4.setStep hgr (i * 7) (.int .i64 q)).setStep hg1 (i * 7 + 1) (.bool (((q : Int) + 1) % 3 == 0))
      have B2 := (HBL.out.setCell (p := ⟨g, i * 7, none⟩) hgl (.int .i64 q)).setCell (p := ⟨g, i * 7 + 1, none⟩) hgl (.bool (((q : Int) + 1) % 3 == 0))
      have S2 : ((wr.setCell ⟨g, i * 7, none⟩ (.int .i64 q)).setCell ⟨g, i * 7 + 1, none⟩ (.bool (((q : Int) + 1) % 3 == 0))).heap.size = wr.heap.size := by rw [size_setCell, size_setCell]
      have look0 := fun j (hj : j < 7) => (row_look hrow (j := i * 7 + j) (by omega)).1.trans (hxa j hj)
      have frz0 := fun j (hj : j < 7) => (row_look hrow (j := i * 7 + j) (by omega)).2.1
      have e0 := look0 0 (by decide)
      have e1 := look0 1 (by decide)
      have e2 := look0 2 (by decide)
      have f0 := frz0 0 (by decide)
      have f1 := frz0 1 (by decide)
      simp only [List.getElem?_cons_zero, List.getElem?_cons_succ, Nat.add_zero] at e0 e1 e2 f0 f1
      have HC1 : Hid (Calls Tryz.prog 59 #[a, .int .i64 ((q : Int) + 1 + 1)] ((wr.setCell ⟨g, i * 7, none⟩ (.int .i64 q)).setCell ⟨g, i * 7 + 1, none⟩ (.bool (((q : Int) + 1) % 3 == 0))) (MarkS (q + 2) l1 lo' m1 a ((wr.setCell ⟨g, i * 7, none⟩ (.int .i64 q)).setCell ⟨g, i * 7 + 1, none⟩ (.bool (((q : Int) + 1) % 3 == 0))))) := by
        have := markIntS_s (q + 2) l1 lo' m1 a _ o1B (by omega)
        rw [show (((q + 2 : Nat)) : Int) = (q : Int) + 1 + 1 by omega] at this
        exact this
      generalize hq2 : q + 2 + l1.length = q2 at *
      have hR2c : ∀ j, 2 ≤ j → j < 7 → ((xs.set (i * 7) (.int .i64 q)).set (i * 7 + 1) (.bool (((q : Int) + 1) % 3 == 0)))[i * 7 + j]? = ([.int .i64 z, .bool sx, a, b, .bool sy, c1, d1] : List Value)[j]? := fun j h2 hj => by
        rw [List.getElem?_set_ne (by omega), List.getElem?_set_ne (by omega)]; exact hxa j hj
      have hlx2 : ((xs.set (i * 7) (.int .i64 q)).set (i * 7 + 1) (.bool (((q : Int) + 1) % 3 == 0))).length = xs.length := by rw [List.length_set, List.length_set]
      have HR2 := Lib.hid R2
      have HK2 := Lib.hid K2
      have HO1 := Lib.hid o1B
      have HO2 := Lib.hid o2B
      have HO3 := Lib.hid o3B
      have HO4 := Lib.hid o4B
      have HB2 := Lib.hid B2
      have HS2 := Lib.hid S2
      have HUP := Lib.hid hupd
      have HSET := Lib.hid hset
      have HEND := Lib.hid hend
      have HCS := Lib.hid hcs
      have HRC := Lib.hid hR2c
      have HLX := Lib.hid hlx2
      have HXL := Lib.hid hxsL
      have HLL := Lib.hid hll
      have HQ2 := Lib.hid hq2
      have hq2b : q2 ≤ 1000 + 243 * i + 62 := by omega
      have hil : (i : Int) < n := by omega
      clear hx hat hrow hcell hlen hll hxsL hxa R1 R2 K2 o1 o2 o3 o4 o1B o2B o3B o4B B2 S2 hupd hset hend hcs look0 frz0 hR2c hlx2 hgr hg1 hq2 HS
      generalize hxs2 : (xs.set (i * 7) (.int .i64 q)).set (i * 7 + 1) (.bool (((q : Int) + 1) % 3 == 0)) = xs2 at *
      have HXS2 := Lib.hid hxs2
      clear hxs2
      go_wp2_with fail
      refine HC1.out.mono ?_
      rintro e w2 ⟨rfl, ho1, hW1, hkr, hsz⟩
      rw [HQ2.out]
      clear e0 e1 e2 f0 f1 HC1
      -- behind the first mark
      have R3 := hkr _ _ _ _ HR2.out
      have o2C := HO2.out.within hW1 (.inr (Nat.le_refl _))
      have HC2 := Lib.hid (markIntS_s q2 l2 m1 m2 b w2 o2C (by omega))
      have K3 := HK2.out.trans (KeptInt.within (lo := lo') (hi := hi2) hW1 (Nat.le_refl _) (by omega))
      have B3 := HB2.out.trans ((hW1.below (by rw [HS2.out]; omega)).mono (by omega))
      have e3 := ((row_look R3 (j := i * 7 + 3) (by rw [HLX.out]; omega)).1).trans (HRC.out 3 (by decide) (by decide))
      simp only [List.getElem?_cons_zero, List.getElem?_cons_succ] at e3
      have HR3 := Lib.hid R3
      have HK3 := Lib.hid K3
      have HB3 := Lib.hid B3
      have HO1' := Lib.hid ho1
      have HO3' := Lib.hid (HO3.out.within hW1 (.inr g2))
      have HO4' := Lib.hid (HO4.out.within hW1 (.inr (by omega)))
      have hsz3 : w2.heap.size = wr.heap.size := hsz.trans HS2.out
      generalize hq3 : q2 + l2.length = q3 at *
      have HQ3 := Lib.hid hq3
      have hq3b : q3 ≤ q2 + 60 := by omega
      clear hq3 R3 o2C K3 B3 ho1 hW1 hkr hsz HR2 HK2 HB2 HO1 HO2 HO3 HO4 HS2
      go_wp2_with fail
      refine HC2.out.mono ?_
      rintro e w3 ⟨rfl, ho2, hW2, hkr, hsz⟩
      rw [HQ3.out]
      clear e3 HC2
      -- behind the second mark: a store, then the third
      have R4 := hkr _ _ _ _ HR3.out
      have hb4 : i * 7 + 4 < xs2.length := by rw [HLX.out]; omega
      have R5 := row_put R4 hb4 (.bool ((q3 : Int) % 3 == 0))
      obtain ⟨hl4, f4, cur4, hg4⟩ := row_look R4 hb4
      have e4 := hl4.trans (HRC.out 4 (by decide) (by decide))
      have e5 := ((row_look R4 (j := i * 7 + 5) (by rw [HLX.out]; omega)).1).trans (HRC.out 5 (by decide) (by decide))
      simp only [List.getElem?_cons_zero, List.getElem?_cons_succ] at e4 e5
      have o1D := (HO1'.out.within hW2 (.inl (Nat.le_refl _))).setStep hg4 (i * 7 + 4) (.bool ((q3 : Int) % 3 == 0))
      have o2D := ho2.setStep hg4 (i * 7 + 4) (.bool ((q3 : Int) % 3 == 0))
      have o3D := (HO3'.out.within hW2 (.inr (Nat.le_refl _))).setStep hg4 (i * 7 + 4) (.bool ((q3 : Int) % 3 == 0))
      have o4D := (HO4'.out.within hW2 (.inr g3)).setStep hg4 (i * 7 + 4) (.bool ((q3 : Int) % 3 == 0))
      have K4 := (HK3.out.trans (KeptInt.within (lo := lo') (hi := hi2) hW2 (by omega) (by omega))).trans (KeptInt.set hg4 (i * 7 + 4) (.bool ((q3 : Int) % 3 == 0)))
      have B4 := (HB3.out.trans ((hW2.below (by omega)).mono (by omega))).setCell (p := ⟨g, i * 7 + 4, none⟩) hgl (.bool ((q3 : Int) % 3 == 0))
      have HC3 : Hid (Calls Tryz.prog 59 #[c1, .int .i64 ((q3 : Int) + 1)] (w3.setCell ⟨g, i * 7 + 4, none⟩ (.bool ((q3 : Int) % 3 == 0))) (MarkS (q3 + 1) l3 m2 m3 c1 (w3.setCell ⟨g, i * 7 + 4, none⟩ (.bool ((q3 : Int) % 3 == 0))))) := by
        have := markIntS_s (q3 + 1) l3 m2 m3 c1 _ o3D (by omega)
        rw [show (((q3 + 1 : Nat)) : Int) = (q3 : Int) + 1 by omega] at this
        exact this
      have hsz4 : (w3.setCell ⟨g, i * 7 + 4, none⟩ (.bool ((q3 : Int) % 3 == 0))).heap.size = wr.heap.size := by rw [size_setCell]; exact hsz.trans hsz3
      generalize hq4 : q3 + 1 + l3.length = q4 at *
      have HQ4 := Lib.hid hq4
      have HR5 := Lib.hid R5
      have HO1D := Lib.hid o1D
      have HO2D := Lib.hid o2D
      have HO4D := Lib.hid o4D
      have HK4 := Lib.hid K4
      have HB4 := Lib.hid B4
      have HZ4 := Lib.hid hsz4
      have hq4b : q4 ≤ q3 + 61 := by omega
      clear hq4 R4 R5 hl4 hg4 o1D o2D o3D o4D K4 B4 ho2 hW2 hkr hsz hsz4 HR3 HK3 HB3 HO1' HO3' HO4'
      go_wp2_with fail
      refine HC3.out.mono ?_
      rintro e w4 ⟨rfl, ho3, hW3, hkr, hsz⟩
      rw [HQ4.out]
      clear e4 e5 f4 HC3
      -- behind the third mark
      have R6 := hkr _ _ _ _ HR5.out
      have e6 := ((row_look R6 (j := i * 7 + 6) (by rw [List.length_set, HLX.out]; omega)).1)
      rw [List.getElem?_set_ne (by omega), HRC.out 6 (by decide) (by decide)] at e6
      simp only [List.getElem?_cons_zero, List.getElem?_cons_succ] at e6
      have HC4 := Lib.hid (markIntS_s q4 l4 m3 hi2 d1 w4 (HO4D.out.within hW3 (.inr (Nat.le_refl _))) (by omega))
      have HR6 := Lib.hid R6
      have HO1E := Lib.hid (HO1D.out.within hW3 (.inl g2))
      have HO2E := Lib.hid (HO2D.out.within hW3 (.inl (Nat.le_refl _)))
      have HO3E := Lib.hid ho3
      have HK5 := Lib.hid (HK4.out.trans (KeptInt.within (lo := lo') (hi := hi2) hW3 (by omega) (by omega)))
      have HB5 := Lib.hid (HB4.out.trans ((hW3.below (by rw [HZ4.out]; omega)).mono (by omega)))
      have hsz5 : w4.heap.size = wr.heap.size := hsz.trans HZ4.out
      generalize hq5 : q4 + l4.length = q5 at *
      have HQ5 := Lib.hid hq5
      have hq5b : q5 ≤ q4 + 60 := by omega
      clear hq5 R6 ho3 hW3 hkr hsz HR5 HK4 HB4 HO1D HO2D HO4D HZ4
      go_wp2_with fail
      refine HC4.out.mono ?_
      rintro e w5 ⟨rfl, ho4, hW4, hkr, hsz⟩
      rw [HQ5.out]
      clear e6 HC4
      -- behind the fourth mark
      have HR7 := Lib.hid (hkr _ _ _ _ HR6.out)
      have HQUAD := Lib.hid (show Quad w5 lo' hi2 a b c1 d1 (marks (q + 2) l1.length) (marks q2 l2.length) (marks (q3 + 1) l3.length) (marks q4 l4.length) from
        ⟨m1, m2, m3, g1, g2, g3, g4, HO1E.out.within hW4 (.inl (by omega)), HO2E.out.within hW4 (.inl g3), HO3E.out.within hW4 (.inl (Nat.le_refl _)), ho4⟩)
      have HK6 := Lib.hid (HK5.out.trans (KeptInt.within (lo := lo') (hi := hi2) hW4 (by omega) (Nat.le_refl _)))
      have HB6 := Lib.hid (HB5.out.trans ((hW4.below (by omega)).mono (by omega)))
      have hsz6 : hi ≤ w5.heap.size := by rw [hsz, hsz5]; exact hhr
      clear ho4 hW4 hkr hsz HR6 HK5 HB5 HO1E HO2E HO3E
      have HSTEPS : Hid (Steps w5 lo hi (.slice (some ⟨g, 0, none⟩) n co) (markAll k0 (ds.take (i + 1)) ++ ds.drop (i + 1))) := by
        show Steps _ _ _ _ _
        rw [← HSET.out]
        refine ⟨?_, HUP.out w5 _ ?_ HK6.out⟩
        · rw [List.length_set, HLL.out, HCS.out]
          have := HR7.out
          rw [← HXS2.out] at this
          have e3 : (markD q ⟨z, sx, sy, a, b, c1, d1, l1, l2, l3, l4⟩).sy = ((q3 : Int) % 3 == 0) := by
            show (((q + 2 + l1.length + l2.length : Nat) : Int) % 3 == 0) = _
            rw [HQ2.out, HQ3.out]
          rw [e3]
          exact this
        · have := HQUAD.out
          rw [← HQ4.out, ← HQ3.out, ← HQ2.out] at this
          exact this
      clear HUP HSET HCS HRC HR7 HQUAD HK6
      go_wp2_with fail
      go_roundw
      case rel => exact ⟨i + 1, q5, by go_num, hlt, rfl, by omega, HEND.out.symm, HSTEPS.out, HB6.out, hsz6⟩
      case measure => simp only [intOf]; omega
    · have hin : i = n := by omega
      have HE : Hid (q = markEnd k0 ds) := by
        show _ = _
        rw [HQ.out, hin, ← HN.out, List.take_length]
      have HF : Hid (Steps wr lo hi (.slice po n co) (markAll k0 ds)) := by
        have := HS.out
        rw [hin, ← HN.out, List.take_length, List.drop_length, List.append_nil, HN.out] at this
        exact this
      have hnl : ¬ ((i : Int) < n) := by omega
      clear hin HS
      go_wp2_with fail
      go_ret
      exact ⟨by rw [← HE.out]; rfl, HF.out, HBL.out, hhr⟩
end Go.Proofs.YtnpfmmdekjjnjaaGreatDoor

/- Contracts of the laws' own helpers on lists of steps: heldStepS. -/
namespace Go.Proofs.YtnpfmmdekjjnjaaGreatDoor
open Go Go.RowKit Pl

theorem markAll_append : ∀ (k : Nat) (l r : List StepD), markAll k (l ++ r) = markAll k l ++ markAll (markEnd k l) r
  | _, [], _ => rfl
  | _, _ :: l, r => by simp only [List.cons_append, markAll, markEnd, markAll_append _ l r]
theorem markAll_at {k0 : Nat} {ds : List StepD} {i : Nat} {x : StepD} (hx : ds[i]? = some x) : (markAll k0 ds)[i]? = some (markD (markEnd k0 (ds.take i)) x) := by
  have hi := (List.getElem?_eq_some_iff.1 hx).1
  have hd : ds = ds.take i ++ x :: ds.drop (i + 1) := by
    conv => lhs; rw [← List.take_append_drop i ds, List.drop_eq_getElem_cons hi, (List.getElem?_eq_some_iff.1 hx).2]
  conv => lhs; rw [hd, markAll_append]
  have hl : (markAll k0 (ds.take i)).length = i := by rw [markAll_len, List.length_take]; omega
  rw [List.getElem?_append_right (by omega), hl, Nat.sub_self]
  rfl

set_option maxHeartbeats 1000000 in
set_option maxRecDepth 100000 in
theorem heldStepS_any (k0 : Nat) (ds : List StepD) (v : Value) (lo hi : Nat) (w : World) (h : Steps w lo hi v (markAll k0 ds)) (hsh : ∀ x ∈ ds, shortD x) (hn60 : ds.length ≤ 60) (hk : k0 ≤ 1000) :
    Calls Tryz.prog 29 #[v, .int .i64 k0] w fun e w' => e = .returned (.int .i64 (markEnd k0 ds : Nat)) ∧ w = w' := by
  obtain ⟨po, co, rfl, hc1, hc2⟩ := h.form
  rw [markAll_len] at *
  have HH := Lib.hid h
  have HSH := Lib.hid hsh
  clear h hsh
  generalize hn : ds.length = n at *
  have HN := Lib.hid hn
  clear hn
  go_enter Tryz.func29, Tryz.ntmps29
  go_wp2_with fail
  go_loop [1, 5] (fun kv iv => ∃ i q : Nat, iv = .int .i64 i ∧ i ≤ n ∧ kv = .int .i64 q ∧ q ≤ 1000 + 243 * i ∧ Hid (q = markEnd k0 (ds.take i))) (fun _ iv => n - (intOf iv).toNat)
  case atStart => exact ⟨0, k0, rfl, Nat.zero_le _, rfl, by omega, rfl⟩
  case round =>
    obtain ⟨i, q, rfl, hi', rfl, hqb, HQ⟩ := hrel
    rcases Nat.lt_or_ge i n with hlt | hge
    · have hil : i < ds.length := by rw [HN.out]; exact hlt
      obtain ⟨x, hx⟩ : ∃ x, ds[i]? = some x := ⟨ds[i], List.getElem?_eq_getElem hil⟩
      have hxs := HSH.out x (List.mem_of_getElem? hx)
      have hat := markAll_at (k0 := k0) hx
      have hend := (marked_at (k0 := k0) hx).2.2
      rw [← HQ.out] at hat hend
      obtain ⟨_, _, _, _, hq⟩ := HH.out.2.at_ hat
      obtain ⟨g, c, hv, _, _, hcj, _⟩ := HH.out.cell hat
      rw [markAll_len, HN.out] at hv
      injection hv with hv _ hv2
      subst hv hv2
      obtain ⟨z, sx, sy, a, b, c1, d1, l1, l2, l3, l4⟩ := x
      obtain ⟨hs1, hs2, hs3, hs4⟩ := hxs
      simp only [markD] at hq hcj hs1 hs2 hs3 hs4 hend
      obtain ⟨i1, i2, i3, i4⟩ := hq.ints
      have e0 := hcj 0 (by decide)
      have e1 := hcj 1 (by decide)
      have e2 := hcj 2 (by decide)
      have e3 := hcj 3 (by decide)
      have e4 := hcj 4 (by decide)
      have e5 := hcj 5 (by decide)
      have e6 := hcj 6 (by decide)
      simp only [StepD.cells, List.getElem?_cons_zero, List.getElem?_cons_succ, Nat.add_zero] at e0 e1 e2 e3 e4 e5 e6
      have HC1 : Hid (Calls Tryz.prog 60 #[a, .int .i64 ((q : Int) + 1 + 1)] w fun e w' => e = .returned (.int .i64 ((q + 2 + l1.length : Nat) : Int)) ∧ w = w') := by
        have := heldIntS_any (q + 2) l1.length a w i1 (by omega)
        rw [show (((q + 2 : Nat)) : Int) = (q : Int) + 1 + 1 by omega] at this
        exact this
      generalize hq2 : q + 2 + l1.length = q2 at *
      have HC2 := Lib.hid (heldIntS_any q2 l2.length b w i2 (by omega))
      generalize hq3 : q2 + l2.length = q3 at *
      have HC3 : Hid (Calls Tryz.prog 60 #[c1, .int .i64 ((q3 : Int) + 1)] w fun e w' => e = .returned (.int .i64 ((q3 + 1 + l3.length : Nat) : Int)) ∧ w = w') := by
        have := heldIntS_any (q3 + 1) l3.length c1 w i3 (by omega)
        rw [show (((q3 + 1 : Nat)) : Int) = (q3 : Int) + 1 by omega] at this
        exact this
      generalize hq4 : q3 + 1 + l3.length = q4 at *
      have HC4 := Lib.hid (heldIntS_any q4 l4.length d1 w i4 (by omega))
      generalize hq5 : q4 + l4.length = q5 at *
      have hq5b : q5 ≤ 1000 + 243 * (i + 1) := by omega
      have hq2b : q2 ≤ 1000 + 243 * i + 62 := by omega
      have hq3b : q3 ≤ 1000 + 243 * i + 122 := by omega
      have hq4b : q4 ≤ 1000 + 243 * i + 183 := by omega
      have HEND := Lib.hid hend
      have t2 : ¬ ((q2 : Int) < 0) := by omega
      have t3 : ¬ ((q3 : Int) < 0) := by omega
      have t4 : ¬ ((q4 : Int) < 0) := by omega
      have t5 : ¬ ((q5 : Int) < 0) := by omega
      have hil : (i : Int) < n := by omega
      have hqq : ((q : Int) != (q : Int)) = false := by simp
      clear hq2 hq3 hq4 hq5 hend i1 i2 i3 i4 hcj hq hat hx
      go_wp2_with fail
      refine HC1.out.mono ?_
      rintro e w' ⟨rfl, rfl⟩
      go_wp2_with fail
      refine HC2.out.mono ?_
      rintro e w' ⟨rfl, rfl⟩
      go_wp2_with fail
      refine HC3.out.mono ?_
      rintro e w' ⟨rfl, rfl⟩
      go_wp2_with fail
      refine HC4.out.mono ?_
      rintro e w' ⟨rfl, rfl⟩
      go_wp2_with fail
      go_round
      case rel => exact ⟨i + 1, q5, by go_num, hlt, rfl, hq5b, HEND.out.symm⟩
      case measure => simp only [intOf]; omega
    · have hin : i = n := by omega
      have HE : Hid (q = markEnd k0 ds) := by
        show _ = _
        rw [HQ.out, hin, ← HN.out, List.take_length]
      have hnl : ¬ ((i : Int) < n) := by omega
      clear hin
      go_wp2_with fail
      go_ret
      exact ⟨by rw [← HE.out]; rfl, rfl⟩
end Go.Proofs.YtnpfmmdekjjnjaaGreatDoor

/- The law of ParseMotion, walked. -/
namespace Go.Proofs.YtnpfmmdekjjnjaaGreatDoor
open Go Go.RowKit Pl

def MoIs (t : List UInt8) (ok : Bool) (l : List StepT) : Prop := (ok = true ∧ moFits t l) ∨ (ok = false ∧ l = [] ∧ ¬ ∃ l, moFits t l)
theorem MoIs.inj {t : List UInt8} {ok ok' : Bool} {l l' : List StepT} (h : MoIs t ok l) (h' : MoIs t ok' l') : ok = ok' ∧ l = l' := by
  rcases h with ⟨rfl, h⟩ | ⟨rfl, rfl, h⟩ <;> rcases h' with ⟨rfl, h'⟩ | ⟨rfl, rfl, h'⟩
  · exact ⟨rfl, moFits_inj h h'⟩
  · exact absurd ⟨_, h⟩ h'
  · exact absurd ⟨_, h'⟩ h
  · exact ⟨rfl, rfl⟩
theorem MoIs.good {t : List UInt8} {ok : Bool} {l : List StepT} (h : MoIs t ok l) : (∀ x ∈ l, stepGood x) ∧ l.length ≤ 60 := by
  rcases h with ⟨rfl, h⟩ | ⟨rfl, rfl, h⟩
  · exact ⟨h.1, h.2.1⟩
  · exact ⟨(fun _ h => by cases h), by simp⟩
theorem AllD.short : ∀ {l : List StepT} {ds : List StepD}, AllD l ds → (∀ x ∈ l, stepGood x) → ∀ d ∈ ds, shortD d
  | [], [], _, _ => fun _ h => by cases h
  | x :: l, d :: ds, h, hg => by
    intro d' hd'
    rcases List.mem_cons.1 hd' with rfl | hd'
    · obtain ⟨_, _, _, e1, e2, e3, e4⟩ := h.1
      have hs := (hg x List.mem_cons_self).small
      unfold shortD
      rw [e1, e2, e3, e4]
      exact ⟨hs.1.1, hs.1.2, hs.2.1, hs.2.2⟩
    · exact AllD.short h.2 (fun y hy => hg y (List.mem_cons_of_mem _ hy)) d' hd'
theorem MoPost.is {t : List UInt8} {w w' : World} {e : Ending} (h : MoPost t w e w') :
    ∃ ok l ds p n c, MoIs t ok l ∧ AllD l ds ∧ e = .returned (.tuple #[.slice p n c, .bool ok]) ∧ Steps w' w.heap.size w'.heap.size (.slice p n c) ds ∧ Below w.heap.size w w' := by
  obtain ⟨hb, ⟨l, ds, v, hf, hd, rfl, hs⟩ | ⟨hn, rfl⟩⟩ := h
  · obtain ⟨p, c, rfl, _, _⟩ := hs.form
    exact ⟨true, l, ds, p, _, c, .inl ⟨rfl, hf⟩, hd, rfl, hs, hb⟩
  · exact ⟨false, [], [], none, 0, 0, .inr ⟨rfl, rfl, hn⟩, trivial, rfl, Steps.nil_ _ _ _ hb.size, hb⟩

set_option maxHeartbeats 2000000 in
set_option maxRecDepth 100000 in
theorem FnExactParseMotion_any (t : List UInt8) (B : Nat) (w : World) (hw : Std B w) :
    Calls Tryz.prog 6 #[(Value.string ⟨(t).toArray⟩)] w fun e w' => e = .returned (.bool true) ∧ Below w.heap.size w w' := by
  by_cases hs : t.length ≤ 1048576
  · have HL := Lib.hid (sParseMotion_any t w hs)
    have HW := Lib.hid hw
    clear hw
    go_enter Tryz.func6, Tryz.ntmps6
    go_wp2_with fail
    refine HL.out.mono ?_
    rintro e w1 hp
    obtain ⟨ok, l, ds0, p0, n0, c0, his, hd0, rfl, hs0, hb1⟩ := hp.is
    have HIS := Lib.hid his
    have HD0 := Lib.hid hd0
    have HS0 := Lib.hid hs0
    have HB1 := Lib.hid hb1
    have HC := Lib.hid (ParseMotion_any t B w1 (HW.out.on hb1) hs)
    clear hp his hd0 hs0 hb1 HL
    go_wp2_with fail
    refine HC.out.mono ?_
    rintro e w2 hp
    obtain ⟨ok', l', ds1, p1, n1, c1, his', hd1, rfl, hs1, hb2⟩ := hp.is
    obtain ⟨rfl, rfl⟩ := HIS.out.inj his'
    have HS1 := Lib.hid hs1
    have HD1 := Lib.hid hd1
    have HB2 := Lib.hid hb2
    have HEQ := Lib.hid (eqStepS_any l ds1 ds0 _ _ _ _ _ _ w2 hs1 (HS0.out.below hb2) hd1 HD0.out)
    have hok : (ok != ok) = false := by simp
    clear hp his' hd1 hs1 hb2 HC
    go_wp2_with fail
    refine HEQ.out.mono ?_
    rintro e w3 ⟨rfl, hb3⟩
    obtain ⟨hgood, h60⟩ := HIS.out.good
    have hsh := HD1.out.short hgood
    have hn60 : ds1.length ≤ 60 := by rw [← HD1.out.len]; exact h60
    have HS3 := Lib.hid (HS1.out.below hb3)
    have HB3 := Lib.hid hb3
    have hme := markEnd_le 1 ds1 hsh
    have HM := Lib.hid (markStepS_any 1 ds1 _ w1.heap.size w2.heap.size w3 HS3.out hsh hn60 (by decide) hb3.size)
    have HSH := Lib.hid hsh
    clear hb3 HEQ hgood hsh
    generalize hT : markEnd 1 ds1 = T at *
    have HT := Lib.hid hT
    have hTb : T ≤ 20000 := by omega
    clear hT hme
    go_wp2_with fail
    refine HM.out.mono ?_
    rintro e w4 ⟨rfl, hs4, hb4, hz4⟩
    have HS4 := Lib.hid hs4
    have HB4 := Lib.hid hb4
    have HH : Hid (∀ W, Below w4.heap.size w4 W → Calls Tryz.prog 29 #[.slice p1 n1 c1, .int .i64 1] W fun e w' => e = .returned (.int .i64 (T : Int)) ∧ W = w') := by
      show ∀ _, _
      intro W hW
      have := heldStepS_any 1 ds1 _ w1.heap.size w2.heap.size W (HS4.out.below hW) HSH.out hn60 (by decide)
      rw [HT.out] at this
      exact this
    clear hs4 hb4 HM
    go_wp2_with fail
    refine (HH.out _ (Below.refl _ _)).mono ?_
    rintro e w' ⟨rfl, rfl⟩
    have hTT : ((T : Int) != (T : Int)) = false := by simp
    have hT0 : ¬ (T : Int) < 0 := by omega
    have hle1 : w.heap.size ≤ w1.heap.size := HB1.out.size
    have hle2 : w1.heap.size ≤ w2.heap.size := HB2.out.size
    have hle3 : w2.heap.size ≤ w3.heap.size := HB3.out.size
    have b13 : Below w1.heap.size w1 w3 := HB2.out.trans (HB3.out.mono HB2.out.size)
    have b14 : Below w1.heap.size w1 w4 := b13.trans HB4.out
    have b04 : Below w.heap.size w w4 := HB1.out.trans (b14.mono HB1.out.size)
    have HS04 := Lib.hid (HS0.out.below b14)
    have HB04 := Lib.hid b04
    have HC := Lib.hid (ParseMotion_any t B w4 (HW.out.below (b04.mono HW.out.2.2.2)) hs)
    clear b13 b14 b04 HS0 HB1 HB2 HB3 HB4 HS1 HS3 HS4
    go_wp2_with fail
    refine HC.out.mono ?_
    rintro e w5 hp
    obtain ⟨ok', l', ds2, p2, n2, c2, his', hd2, rfl, hs2, hb5⟩ := hp.is
    obtain ⟨rfl, rfl⟩ := HIS.out.inj his'
    have HB5 := Lib.hid hb5
    have HEQ := Lib.hid (eqStepS_any l ds2 ds0 _ _ _ _ _ _ w5 hs2 (HS04.out.below hb5) hd2 HD0.out)
    clear hp his' hd2 hs2 hb5 HC
    go_wp2_with fail
    refine HEQ.out.mono ?_
    rintro e w6 ⟨rfl, hb6⟩
    have HB46 := Lib.hid (HB5.out.trans (hb6.mono HB5.out.size))
    clear hb6 HEQ
    go_wp2_with fail
    refine (HH.out _ HB46.out).mono ?_
    rintro e w' ⟨rfl, rfl⟩
    have HBF := Lib.hid (HB04.out.trans (HB46.out.mono HB04.out.size))
    clear HH HB46 HB04
    go_wp2_with fail
    go_ret
    exact ⟨rfl, HBF.out⟩
  · have HB := Lib.hid (Below.refl w.heap.size w)
    go_enter Tryz.func6, Tryz.ntmps6
    go_wp2_with fail
    go_ret
    exact ⟨rfl, HB.out⟩
end Go.Proofs.YtnpfmmdekjjnjaaGreatDoor
