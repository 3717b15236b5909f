/- shift.turned, its words. -/
import Derived.Test.YtdkfdamihnieiaaGreatG27
set_option linter.unusedSimpArgs false
set_option linter.unusedVariables false
section
open Go Go.RowKit Go.Shelf
namespace Go.Proofs.YtdkfdamihnieiaaGreat
open Go.Proofs
def turnS (m : List (List Rat)) (C : Nat) : List (List Rat) := (List.range C).map fun k => (List.range m.length).map fun i => atM m i k
/-- The rows of a matrix that is read, their elements' cells named. -/
theorem Vm.views {n0 : Nat} {w : World} {A : Option Addr} {l c : Nat} {m : List (List Rat)} (h : Vm n0 cq w (.slice A l c) m) : ∃ (R : Nat → Option Addr × Nat) (X : Nat → Nat → Qx), ∀ i, i < m.length →
    (∃ b o, A = some ⟨b, o, none⟩ ∧ w.cell? ⟨b, o + i, none⟩ = some (.slice (R i).1 (m.getD i []).length (R i).2)) ∧ Vw n0 cq w (.slice (R i).1 (m.getD i []).length (R i).2) (m.getD i []) (X i) := by
  have key : ∀ i, ∃ (r : Option Addr × Nat) (x : Nat → Qx), i < m.length → (∃ b o, A = some ⟨b, o, none⟩ ∧ w.cell? ⟨b, o + i, none⟩ = some (.slice r.1 (m.getD i []).length r.2)) ∧ Vw n0 cq w (.slice r.1 (m.getD i []).length r.2) (m.getD i []) x := by
    intro i
    by_cases hi : i < m.length
    · obtain ⟨b, o, A', c', hA, hc, hv⟩ := h.at hi
      obtain ⟨f, hf⟩ := hv.view cq_ratl
      exact ⟨(A', c'), f, fun _ => ⟨⟨b, o, hA, hc⟩, hf⟩⟩
    · exact ⟨(none, 0), fun _ => Qx.zero, fun h => absurd h hi⟩
  refine ⟨fun i => Classical.choose (key i), fun i => Classical.choose (Classical.choose_spec (key i)), fun i hi => Classical.choose_spec (Classical.choose_spec (key i)) hi⟩
/-- The columns in the making. -/
structure TurI (w W : World) (ob C : Nat) (vs : List Value) (L : Nat → List Qx) : Prop where
  blk : Blk W ob 26 vs
  len : vs.length = C
  own : ∀ j (hj : j < vs.length), W.ownsRow (ob + 1) 44 4 vs[j] (L j).length (qcs (L j))
  apart : ∀ j k (hj : j < vs.length) (hk : k < vs.length), j ≠ k → ∀ b, vs[j].ownBlock = some b → vs[k].ownBlock ≠ some b
  below : Below w.heap.size w W
  ob : w.heap.size ≤ ob
theorem TurI.later {w W W' ob C vs L} (H : TurI w W ob C vs L) (hb : Below W.heap.size W W') : TurI w W' ob C vs L := ⟨H.blk.below hb, H.len, fun j hj => row_below (H.own j hj) hb, H.apart, bthen H.below hb, H.ob⟩
theorem own_same {w w' : World} {base : Nat} {e : TypeId} {size n : Nat} {v : Value} {xs : List Value} (h : w.ownsRow base e size v n xs) (hs : ∀ b, v.ownBlock = some b → w'.heap[b]? = w.heap[b]?) : w'.ownsRow base e size v n xs := by
  refine ⟨h.1, ?_⟩
  rcases h.2 with h2 | ⟨g, cap, cur, hv, hg, hh, rest⟩
  · exact .inl h2
  · exact .inr ⟨g, cap, cur, hv, hg, (hs g (by rw [hv]; rfl)).trans hh, rest⟩
theorem TurI.step {w W W1 ob C vs L} (H : TurI w W ob C vs L) {k : Nat} (hk : k < vs.length) {v' : Value} {x : Qx} (hown : W1.ownsRow (ob + 1) 44 4 v' ((L k).length + 1) (qcs (L k) ++ x.cs)) (hsz : W.heap.size ≤ W1.heap.size) (hb : Below w.heap.size w W1) (hs : ∀ b, b < W.heap.size → some b ≠ vs[k].ownBlock → W1.heap[b]? = W.heap[b]?) (hv : ∀ g, v'.ownBlock = some g → vs[k].ownBlock = some g ∨ W.heap.size ≤ g) :
    Blk W1 ob 26 vs ∧ TurI w (W1.setCell ⟨ob, k, none⟩ v') ob C (vs.set k v') (fun j => if j = k then L k ++ [x] else L j) := by
  have hB1 : Blk W1 ob 26 vs := (hs ob H.blk.lt (own_apart (H.own k hk) H.blk (by decide))).trans H.blk
  refine ⟨hB1, hB1.set k v', by rw [List.length_set]; exact H.len, fun j hj => ?_, fun j j2 hj hj2 hne => ?_, hb.setCell H.ob _, H.ob⟩
  · have hj' : j < vs.length := by simpa using hj
    by_cases e : j = k
    · subst e
      simp only [List.getElem_set_self, if_true]
      rw [List.length_append, List.length_singleton, qcs_append, qcs_one]
      exact ownsRow_setCell_other hown (fun e => own_type hown hB1 (by decide) e) v'
    · simp only [List.getElem_set_ne (fun h => e h.symm), if_neg e]
      have h1 : W1.ownsRow (ob + 1) 44 4 vs[j] (L j).length (qcs (L j)) := own_same (H.own j hj') (fun b hbj => hs b ((H.own j hj').lt b hbj).2 (fun e2 => H.apart j k hj' hk e b hbj e2.symm))
      exact ownsRow_setCell_other h1 (fun e => own_type h1 hB1 (by decide) e) v'
  · have hj' : j < vs.length := by simpa using hj
    have hj2' : j2 < vs.length := by simpa using hj2
    intro b hb1 hb2
    by_cases e : j = k
    · subst e
      simp only [List.getElem_set_self] at hb1
      simp only [List.getElem_set_ne hne] at hb2
      rcases hv b hb1 with h | h
      · exact H.apart j j2 hj' hj2' hne b h hb2
      · have := ((H.own j2 hj2').lt b hb2).2; omega
    · by_cases e2 : j2 = k
      · subst e2
        simp only [List.getElem_set_self] at hb2
        simp only [List.getElem_set_ne (fun h => e h.symm)] at hb1
        rcases hv b hb2 with h | h
        · exact H.apart j j2 hj' hj2' hne b hb1 h
        · have := ((H.own j hj').lt b hb1).2; omega
      · simp only [List.getElem_set_ne (fun h => e h.symm)] at hb1
        simp only [List.getElem_set_ne (fun h => e2 h.symm)] at hb2
        exact H.apart j j2 hj' hj2' hne b hb1 hb2
theorem TurI.start (w : World) (C : Nat) : TurI w (w.alloc (.cells (List.replicate C (Value.slice none 0 0)).toArray 26)) w.heap.size C (List.replicate C (Value.slice none 0 0)) (fun _ => []) := by
  refine ⟨Blk.new w _ 26 rfl, by simp, fun j hj => ?_, fun j k hj hk hne b hb => ?_, bal (b0 w), Nat.le_refl _⟩
  · simp only [List.getElem_replicate]; exact World.ownsRow_nil _ _ _ _
  · simp only [List.getElem_replicate] at hb; cases hb
/-- What the columns hold, i rows done, k elements of the next. -/
def colX (X : Nat → Nat → Qx) (i k : Nat) : Nat → List Qx := fun j => (List.range (if j < k then i + 1 else i)).map fun r => X r j
theorem colX_step (X : Nat → Nat → Qx) (i k : Nat) : (fun j => if j = k then colX X i k k ++ [X i k] else colX X i k j) = colX X i (k + 1) := by
  funext j
  unfold colX
  by_cases e : j = k
  · subst e
    rw [if_pos rfl, if_neg (by omega), if_pos (by omega), List.range_succ, List.map_append]; rfl
  · rw [if_neg e]
    by_cases h : j < k
    · rw [if_pos h, if_pos (by omega)]
    · rw [if_neg h, if_neg (by omega)]
theorem colX_next (X : Nat → Nat → Qx) (i C j : Nat) (hj : j < C) : colX X i C j = colX X (i + 1) 0 j := by
  unfold colX; rw [if_pos hj, if_neg (by omega)]
theorem colX_len (X : Nat → Nat → Qx) (i k : Nat) : (colX X i k k).length = i := by unfold colX; simp
theorem TurI.congr {w W ob C vs L L'} (H : TurI w W ob C vs L) (h : ∀ j, j < C → L j = L' j) : TurI w W ob C vs L' := ⟨H.blk, H.len, fun j hj => by rw [← h j (by rw [← H.len]; exact hj)]; exact H.own j hj, H.apart, H.below, H.ob⟩
theorem madeCells_s (n : Nat) : madeCells (Value.slice none 0 0).cells n = (List.replicate n (Value.slice none 0 0)).toArray := by
  apply Array.ext'
  simp only [madeCells, Array.toList_map, Array.toList_range]
  rw [List.eq_replicate_iff]
  constructor
  · simp
  · intro b hb
    simp only [List.mem_map] at hb
    obtain ⟨a, _, rfl⟩ := hb
    simp [Nat.mod_one, Value.cells]
theorem make_s (w : World) (n : Nat) (h : n ≤ 1000000000) : (Instr.makeSlice 56 (.int .i64 (n : Int)) (.int .i64 (n : Int))).run Tryz.prog w =
    .ok (.slice (some ⟨w.heap.size, 0, none⟩) n n) (w.alloc (.cells (List.replicate n (Value.slice none 0 0)).toArray 26)) := by
  obtain ⟨i, hi, hz, h1, h2⟩ := info_parts' Tryz.info26
  rw [run_make (P := Tryz.prog) w 56 26 i (.slice none 0 0) Tryz.under56 hi hz .i64 .i64 n n (by omega) (Int.le_refl _) (by rw [h2]; omega) (by omega)]
  rw [h1, ← madeCells_s]
  simp
end Go.Proofs.YtdkfdamihnieiaaGreat
end
section
/- shift.turned. -/
open Go Go.RowKit Go.Shelf
namespace Go.Proofs.YtdkfdamihnieiaaGreat
open Go.Proofs
attribute [local go_sem] Oper.semAt_some wide_fn wide_depth
/-- What holds within the region: one append, operation 11. -/
def GT (h n : Nat) (v1 : Value) (L1 M1 : List Value) (s0 : Nat) (D : Nat → Prop) (u : Nat → Value) (W : World) : Prop :=
  (¬ D 11 → W.ownsRow h 44 4 v1 n L1) ∧ (D 11 → W.ownsRow h 44 4 (u 11) (n + 1) M1 ∧ ∀ g, (u 11).ownBlock = some g → v1.ownBlock = some g ∨ s0 ≤ g)
theorem GT.gen {h n v1 L1 M1 s0 D u W W2} {J : Nat} {v : Value} (H : GT h n v1 L1 M1 s0 D u W) (hb : Below W.heap.size W W2) (h4 : J ≠ 11) : GT h n v1 L1 M1 s0 (fun k => k = J ∨ D k) (upd u J v) W2 := by
  have u4 : upd u J v 11 = u 11 := by unfold upd; rw [if_neg (fun e => h4 e.symm)]
  refine ⟨fun hd => row_below (H.1 (fun h => hd (.inr h))) hb, fun hd => ?_⟩
  have := H.2 (hd.resolve_left (fun e => h4 e.symm))
  rw [u4]; exact ⟨row_below this.1 hb, this.2⟩
set_option maxRecDepth 100000 in
set_option maxHeartbeats 4000000 in
theorem turned_c {n0 C : Nat} {w : World} {v : Value} {m : List (List Rat)} (h : Vm n0 cq w v m) (hw : widthL m C) (hC : C ≤ 1000) (hml : m.length ≤ 1000) : Calls Tryz.prog 107 #[v, .int .i64 (C : Int)] w fun e w' => ∃ A l c, e = .returned (.slice A l c) ∧ Below w.heap.size w w' ∧ Vm n0 cq w' (.slice A l c) (turnS m C) := by
  obtain ⟨A, l, c, rfl⟩ := h.shape
  obtain rfl := h.len
  obtain ⟨R, X, hX⟩ := h.views
  have HX := Lib.hid hX
  have HWD := Lib.hid hw
  obtain ⟨W2, mk, HT0⟩ : ∃ W2, (Instr.makeSlice 56 (.int .i64 (C : Int)) (.int .i64 (C : Int))).run Tryz.prog w = .ok (.slice (some ⟨w.heap.size, 0, none⟩) C C) W2 ∧ Hid (TurI w W2 w.heap.size C (List.replicate C (Value.slice none 0 0)) (fun _ => [])) := ⟨_, make_s w C (by omega), Lib.hid (TurI.start w C)⟩
  obtain ⟨i0, hi, hz0, hz1, hz2⟩ := info_parts' Tryz.info44
  have HI0 := Lib.hid (show i0.zero = some (.agg #[.bool false, .slice none 0 0, .bool false, .slice none 0 0]) ∧ i0.size = 4 ∧ i0.bytes = 64 from ⟨hz0, hz1, hz2⟩)
  clear h hX hw hz0 hz1 hz2
  go_enter Tryz.func107, Tryz.ntmps107
  go_wp2
  clear mk
  go_loopg [13] m.length (fun gh iv wr => ∃ (i : Nat) (vs : List Value), gh = m.length - i ∧ i ≤ m.length ∧ iv = .int .i64 (i : Int) ∧ Hid (TurI w wr w.heap.size C vs (colX X i 0)))
  case atStart => exact ⟨0, _, rfl, by omega, rfl, Lib.hid (HT0.out.congr (fun j hj => by unfold colX; simp))⟩
  case round =>
    obtain ⟨i, vs, rfl, him, rfl, HT⟩ := hrel
    obtain ⟨wo, rfl⟩ : ∃ wo : World, wo = wr := ⟨_, rfl⟩
    by_cases hlt : i < m.length
    · obtain ⟨⟨b, o, hA, hc⟩, hv⟩ := HX.out i hlt
      have hwi := HWD.out i hlt
      subst hA
      generalize R i = ri at hc hv
      obtain ⟨RA, Rc⟩ := ri
      simp only [hwi] at hc hv
      have x0 := (HT.out.below.cell (World.block_lt_of_cell? w _ hc)).trans hc
      have hbl := Nat.lt_of_lt_of_le (World.block_lt_of_cell? w _ hc) HT.out.below.size
      simp only at hbl
      have HV := Lib.hid hv
      clear hc hv
      go_wp2
      go_loopg [19] C (fun gh iv wr => ∃ (k : Nat) (vs2 : List Value), gh = C - k ∧ k ≤ C ∧ iv = .int .i64 (k : Int) ∧ Hid (TurI w wr w.heap.size C vs2 (colX X i k)))
      case atStart => exact ⟨0, vs, rfl, by omega, rfl, HT⟩
      case round =>
        obtain ⟨k, vs2, rfl, hkC, rfl, HU⟩ := hrel
        obtain ⟨wp, rfl⟩ : ∃ wp : World, wp = wr := ⟨_, rfl⟩
        by_cases hlk : k < C
        · have hk2 : k < vs2.length := by rw [HU.out.len]; exact hlk
          have hownk := HU.out.own k hk2
          rw [colX_len] at hownk
          have hcell := HU.out.blk.cell k
          rw [List.getElem?_eq_getElem hk2] at hcell
          have hfz := HU.out.blk.frozen k
          have hlo := HU.out.blk.lt
          have hst := fun W1 v' h1 h2 h3 h4 h5 => HU.out.step (W1 := W1) hk2 (v' := v') (x := X i k) (by rw [colX_len]; exact h1) h2 h3 h4 h5
          rw [colX_step] at hst
          obtain ⟨vk, hvk⟩ : ∃ vk, vk = vs2[k] := ⟨_, rfl⟩
          rw [← hvk] at hownk hcell hst
          obtain ⟨Ak, ck, rfl⟩ := own_slice hownk
          have HST := Lib.hid hst
          have HVK := Lib.hid hvk
          obtain ⟨L1, hL1⟩ : ∃ L1, L1 = qcs (colX X i k k) := ⟨_, rfl⟩
          rw [← hL1] at hownk
          have HL1 := Lib.hid hL1
          have hcs := HV.out.cells _ _ _ rfl
          obtain ⟨b1, o1, hA1, _, _⟩ := HV.out.vq.rv.cells (by omega)
          subst hA1
          have hcs2 := hcs b1 o1 rfl k (by omega)
          obtain ⟨⟨Ae, le, ce, e1⟩, Ae2, le2, ce2, e2⟩ := cq_ratl.slices (HV.out.el k)
          obtain ⟨en, hen⟩ : ∃ en, en = (X i k).n := ⟨_, rfl⟩
          obtain ⟨em, hem⟩ : ∃ em, em = (X i k).m := ⟨_, rfl⟩
          have y0 := hcs2 0 (by omega)
          have y1 := hcs2 1 (by omega)
          have y2 := hcs2 2 (by omega)
          have y3 := hcs2 3 (by omega)
          simp only [Qx.cs, e1, e2, ← hen, ← hem, List.getElem?_cons_zero, List.getElem?_cons_succ, Nat.add_zero] at y0 y1 y2 y3
          have HXC := Lib.hid (show (X i k).cs = [.bool en, .slice Ae le ce, .bool em, .slice Ae2 le2 ce2] by simp only [Qx.cs, e1, e2, hen, hem])
          have hb1 : b1 < w.heap.size := World.block_lt_of_cell? w _ y0
          have HBL := Lib.hid HU.out.below
          have HOWN := Lib.hid hownk
          have HY := Lib.hid (show w.cell? ⟨b1, o1 + k * 4, none⟩ = some (.bool en) ∧ w.cell? ⟨b1, o1 + k * 4 + 1, none⟩ = some (.slice Ae le ce) ∧ w.cell? ⟨b1, o1 + k * 4 + 2, none⟩ = some (.bool em) ∧ w.cell? ⟨b1, o1 + k * 4 + 3, none⟩ = some (.slice Ae2 le2 ce2) from ⟨y0, y1, y2, y3⟩)
          have hsz := HU.out.below.size
          have HB := Lib.hid HU.out.blk
          obtain ⟨r1, hr1⟩ : ∃ r1, r1 = (Value.slice Ak i ck).ownBlock := ⟨_, rfl⟩
          have nb : some w.heap.size ≠ r1 := by rw [hr1]; exact own_apart hownk HU.out.blk (by decide)
          have lr : ∀ r, r1 = some r → r < wp.heap.size ∧ w.heap.size + 1 ≤ r := fun r e => by rw [hr1] at e; exact ⟨(hownk.lt r e).2, (hownk.lt r e).1⟩
          have HNB := Lib.hid (show some w.heap.size ≠ r1 from nb)
          have HLR := Lib.hid lr
          have HR1 := Lib.hid hr1
          have HG0 := Lib.hid (show GT (w.heap.size + 1) i (.slice Ak i ck) L1 (L1 ++ [.bool en, .slice Ae le ce, .bool em, .slice Ae2 le2 ce2]) wp.heap.size (fun _ => False) (fun _ => undef) wp.drew from ⟨fun _ => row_below hownk (bdr (b0 wp)), fun h => h.elim⟩)
          clear hcs hcs2 hst hvk hownk e1 e2 hen hem hL1 y0 y1 y2 y3 hr1 nb lr hcell hfz
          go_wp2
          refine (wpIn_wide (n := 10)).1 ?_
          refine wpIn_region_G (by kernel_rfl) (by kernel_rfl) 12 2 rfl (by kernel_rfl) (fun u => { tmps := List.toArray ((Value.slice (some { block := b, off := o }) m.length c) :: (Value.int IntKind.i64 ↑C) :: undef :: undef :: (Value.slice none 0 0) :: (Value.slice (some { block := w.heap.size, off := 0 }) C C) :: undef :: (Value.slice (some { block := b1, off := o1 }) C Rc) :: (Value.int IntKind.i64 ↑k) :: (Value.int IntKind.i64 ↑C) :: (Value.slice (some { block := w.heap.size, off := 0 }) C C) :: (Value.slice (some { block := b, off := o }) m.length c) :: (Value.int IntKind.i64 ↑m.length) :: (Value.int IntKind.i64 ↑i) :: (Value.bool true) :: (Value.pointer (some { block := b, off := o + i })) :: (Value.slice (some { block := b1, off := o1 }) C Rc) :: (Value.slice (some { block := w.heap.size, off := 0 }) C C) :: (Value.int IntKind.i64 ↑C) :: (Value.int IntKind.i64 ↑k) :: (Value.bool true) :: (Value.int IntKind.i64 ↑k) :: (u 0) :: (u 1) :: (u 2) :: (u 3) :: (u 4) :: (u 5) :: (u 6) :: (u 7) :: (u 8) :: (u 9) :: (u 10) :: (u 11) :: u34 :: u35 :: u36 :: undef :: []), defers := [] }) (fun k => #[u22, u23, u24, u25, u26, u27, u28, u29, u30, u31, u32, u33].getD k undef) rfl (RX w.heap.size r1 none) RX.refl RX.trans
            (fun j9 v W1 => match j9 with
              | 0 => v = Value.slice (some ⟨w.heap.size, 0, none⟩) C C
              | 1 => v = Value.int .i64 (k : Int)
              | 2 => v = Value.slice (some ⟨w.heap.size, 0, none⟩) C C
              | 3 => v = Value.int .i64 (k : Int)
              | 4 => v = Value.pointer (some ⟨w.heap.size, k, none⟩)
              | 5 => v = Value.slice Ak i ck
              | 6 => v = Value.slice (some ⟨b1, o1, none⟩) C Rc
              | 7 => v = Value.int .i64 (k : Int)
              | 8 => v = Value.pointer (some ⟨b1, o1 + k * 4, none⟩)
              | 9 => v = Value.agg #[.bool en, .slice Ae le ce, .bool em, .slice Ae2 le2 ce2]
              | 10 => ∃ g, v = .slice (some ⟨g, 0, none⟩) 1 1 ∧ Blk W1 g 44 [.bool en, .slice Ae le ce, .bool em, .slice Ae2 le2 ce2] ∧ some g ≠ r1
              | 11 => ∃ A c, v = .slice A (i + 1) c
              | _ => True) ?hY (GT (w.heap.size + 1) i (Value.slice Ak i ck) L1 (L1 ++ [.bool en, .slice Ae le ce, .bool em, .slice Ae2 le2 ce2]) wp.heap.size) ⟨HG0.out.1, fun h => h.elim⟩ ?step ?fin
          case hY =>
            intro k v W1 W2 h hb
            match k, h with
            | 0, h => exact h
            | 1, h => exact h
            | 2, h => exact h
            | 3, h => exact h
            | 4, h => exact h
            | 5, h => exact h
            | 6, h => exact h
            | 7, h => exact h
            | 8, h => exact h
            | 9, h => exact h
            | 10, ⟨g, e, hg, n1⟩ => exact ⟨g, e, (hb.same g hg.lt n1 (by simp)).trans hg, n1⟩
            | 11, h => exact h
            | k + 12, h => trivial
          case step =>
            intro D u W' j o hj ho hnD hcl hpre hR hG
            have hsz' : wp.heap.size ≤ W'.heap.size := hR.size
            have q1 : Blk W' w.heap.size 26 vs2 := (hR.same _ HB.out.lt HNB.out (by simp)).trans HB.out
            have x1 := q1.cell k
            rw [List.getElem?_eq_getElem hk2, ← HVK.out] at x1
            have hbw : Below w.heap.size w W' := HBL.out.trans ((bdr (b0 wp)).mono hsz |>.trans hR.below)
            obtain ⟨y0, y1, y2, y3⟩ := HY.out
            replace y0 := (hbw.cell (p := ⟨b1, o1 + k * 4, none⟩) hb1).trans y0
            replace y1 := (hbw.cell (p := ⟨b1, o1 + k * 4 + 1, none⟩) hb1).trans y1
            replace y2 := (hbw.cell (p := ⟨b1, o1 + k * 4 + 2, none⟩) hb1).trans y2
            replace y3 := (hbw.cell (p := ⟨b1, o1 + k * 4 + 3, none⟩) hb1).trans y3
            have HGG := Lib.hid hG
            have HRR := Lib.hid hR
            clear q1 hG hR hcl hbw
            obtain rfl | rfl | rfl | rfl | rfl | rfl | rfl | rfl | rfl | rfl | rfl | rfl : j = 0 ∨ j = 1 ∨ j = 2 ∨ j = 3 ∨ j = 4 ∨ j = 5 ∨ j = 6 ∨ j = 7 ∨ j = 8 ∨ j = 9 ∨ j = 10 ∨ j = 11 := by omega
            · simp at ho
              subst ho
              simp [Region.binds] at hpre
              refine wpOpIn_step rfl (fun K' hK => ?_)
              simp only [Region.wanted]
              have HK := Lib.hid hK
              clear hK
              gi_wp2
              exact HK.out _ _ ⟨Value.slice (some ⟨w.heap.size, 0, none⟩) C C, by simp [upd, undef, *], RX.refl _, rfl, HGG.out.gen (b0 _) (by omega)⟩
            · simp at ho
              subst ho
              simp [Region.binds] at hpre
              refine wpOpIn_step rfl (fun K' hK => ?_)
              simp only [Region.wanted]
              have HK := Lib.hid hK
              clear hK
              gi_wp2
              exact HK.out _ _ ⟨Value.int .i64 (k : Int), by simp [upd, undef, *], RX.refl _, rfl, HGG.out.gen (b0 _) (by omega)⟩
            · simp at ho
              subst ho
              simp [Region.binds] at hpre
              refine wpOpIn_step rfl (fun K' hK => ?_)
              simp only [Region.wanted]
              have HK := Lib.hid hK
              clear hK
              gi_wp2
              exact HK.out _ _ ⟨Value.slice (some ⟨w.heap.size, 0, none⟩) C C, by simp [upd, undef, *], RX.refl _, rfl, HGG.out.gen (b0 _) (by omega)⟩
            · simp at ho
              subst ho
              simp [Region.binds] at hpre
              refine wpOpIn_step rfl (fun K' hK => ?_)
              simp only [Region.wanted]
              have HK := Lib.hid hK
              clear hK
              gi_wp2
              exact HK.out _ _ ⟨Value.int .i64 (k : Int), by simp [upd, undef, *], RX.refl _, rfl, HGG.out.gen (b0 _) (by omega)⟩
            · simp at ho
              subst ho
              simp [Region.binds] at hpre
              refine wpOpIn_step rfl (fun K' hK => ?_)
              simp only [Region.wanted]
              have HK := Lib.hid hK
              clear hK
              gi_wp2
              exact HK.out _ _ ⟨Value.pointer (some ⟨w.heap.size, k, none⟩), by simp [upd, undef, *], RX.refl _, rfl, HGG.out.gen (b0 _) (by omega)⟩
            · simp at ho
              subst ho
              simp [Region.binds] at hpre
              refine wpOpIn_step rfl (fun K' hK => ?_)
              simp only [Region.wanted]
              have HK := Lib.hid hK
              clear hK
              gi_wp2
              exact HK.out _ _ ⟨Value.slice Ak i ck, by simp [upd, undef, *], RX.refl _, rfl, HGG.out.gen (b0 _) (by omega)⟩
            · simp at ho
              subst ho
              simp [Region.binds] at hpre
              refine wpOpIn_step rfl (fun K' hK => ?_)
              simp only [Region.wanted]
              have HK := Lib.hid hK
              clear hK
              gi_wp2
              exact HK.out _ _ ⟨Value.slice (some ⟨b1, o1, none⟩) C Rc, by simp [upd, undef, *], RX.refl _, rfl, HGG.out.gen (b0 _) (by omega)⟩
            · simp at ho
              subst ho
              simp [Region.binds] at hpre
              refine wpOpIn_step rfl (fun K' hK => ?_)
              simp only [Region.wanted]
              have HK := Lib.hid hK
              clear hK
              gi_wp2
              exact HK.out _ _ ⟨Value.int .i64 (k : Int), by simp [upd, undef, *], RX.refl _, rfl, HGG.out.gen (b0 _) (by omega)⟩
            · simp at ho
              subst ho
              simp [Region.binds] at hpre
              refine wpOpIn_step rfl (fun K' hK => ?_)
              simp only [Region.wanted]
              have HK := Lib.hid hK
              clear hK
              gi_wp2
              exact HK.out _ _ ⟨Value.pointer (some ⟨b1, o1 + k * 4, none⟩), by simp [upd, undef, *], RX.refl _, rfl, HGG.out.gen (b0 _) (by omega)⟩
            · simp at ho
              subst ho
              simp [Region.binds] at hpre
              refine wpOpIn_step rfl (fun K' hK => ?_)
              simp only [Region.wanted]
              have HK := Lib.hid hK
              clear hK
              gi_wp2
              exact HK.out _ _ ⟨Value.agg #[.bool en, .slice Ae le ce, .bool em, .slice Ae2 le2 ce2], by simp [upd, undef, *], RX.refl _, rfl, HGG.out.gen (b0 _) (by omega)⟩
            · simp at ho
              subst ho
              simp [Region.binds] at hpre
              refine wpOpIn_step rfl (fun K' hK => ?_)
              simp only [Region.wanted]
              have HK := Lib.hid hK
              clear hK
              gi_wp2
              exact HK.out _ _ ⟨.slice (some ⟨W'.heap.size, 0, none⟩) 1 1, by simp [upd, undef, *], RX.of (bal (b0 _)) (by omega), ⟨W'.heap.size, rfl, Blk.new W' [.bool en, .slice Ae le ce, .bool em, .slice Ae2 le2 ce2] 44 rfl, fun e => by have := (HLR.out _ e.symm).1; omega⟩, HGG.out.gen (bal (b0 _)) (by omega)⟩
            · simp at ho
              subst ho
              simp [Region.binds] at hpre
              obtain ⟨⟨_, e1⟩, _, g, e3, hg, ng1⟩ := hpre
              rw [e1, e3]
              refine wpOpIn_step rfl (fun K' hK => ?_)
              have HK := Lib.hid hK
              clear hK
              show Oper.wpIn _ _ _ _ _ _ _ _
              refine opIn_append (.tmp 27) (.tmp 32) 26 rfl (w.heap.size + 1) 44 i0 (.agg #[.bool false, .slice none 0 0, .bool false, .slice none 0 0]) 4 64 Tryz.under26 hi HI0.out.1 HI0.out.2.1 HI0.out.2.2 rfl (by decide) (Value.slice Ak i ck) i L1 rfl (HGG.out.1 hnD) ⟨g, 0, none⟩ 1 1 [.bool en, .slice Ae le ce, .bool em, .slice Ae2 le2 ce2] rfl rfl ?_ ?_ ?_ ?_ ?_ ?_
              · intro j u' hu
                rw [addr_add0, Nat.zero_add, cell_of_row W' g j _ 44 (0, 0) hg]
                simpa using hu
              · intro u' hu; simp at hu; rcases hu with rfl | rfl | rfl | rfl <;> simp [Value.oneCell']
              · unfold maxLen; omega
              · omega
              · omega
              intro v' w2 hown' hgrow hblk
              obtain ⟨A', c', rfl⟩ := own_slice hown'
              refine HK.out _ _ ⟨.slice A' (i + 1) c', by simp [upd, undef, Act.put, e1, e3], RX.g1 (by rw [HR1.out]; exact hgrow) (by omega) (fun r e => by have := (HLR.out r e).2; omega), ⟨A', c', rfl⟩, ⟨fun h => absurd (.inl rfl) h, fun _ => ⟨hown', fun g hg => (hblk g hg).imp_right (fun h => by omega)⟩⟩⟩
          case fin =>
            intro u W' hR hY hG
            have g0 : u 0 = Value.slice (some ⟨w.heap.size, 0, none⟩) C C := hY 0 (by omega)
            have g1 : u 1 = Value.int .i64 (k : Int) := hY 1 (by omega)
            obtain ⟨A8, c8, g11⟩ := hY 11 (by omega)
            obtain ⟨o1', o2'⟩ := hG.2 (show 11 < 12 by omega)
            rw [g11] at o1' o2'
            have hsz' : wp.heap.size ≤ W'.heap.size := hR.size
            have hbw : Below w.heap.size w W' := HBL.out.trans ((bdr (b0 wp)).mono hsz |>.trans hR.below)
            obtain ⟨hB1, hT1⟩ := HST.out W' (.slice A8 (i + 1) c8) (by rw [← HL1.out, HXC.out]; exact o1') hsz' hbw (fun b hb hne => hR.same b hb (by rw [HR1.out]; exact hne) (by simp)) o2'
            have x1 := hB1.cell k
            rw [List.getElem?_eq_getElem hk2] at x1
            have hfz := hB1.frozen k
            have HT1 := Lib.hid hT1
            have hlo2 : w.heap.size < W'.heap.size := hB1.lt
            clear hY hR hbw hT1 hB1 o1' o2' hG
            refine wpTail_step (i' := 13) (c := 1) rfl ?_
            rw [g0, g1, g11]
            refine wpOpIn_step rfl (fun K' hK => ?_)
            simp only [Region.wanted, List.getElem_toArray, List.getElem_cons_succ, List.getElem_cons_zero]
            have HK := Lib.hid hK
            clear hK
            gi_wp2
            refine HK.out _ _ ?_
            clear HK
            refine wpTail_step (i' := 14) (c := 0) rfl ?_
            refine wpOpIn_step rfl (fun K' hK => ?_)
            simp only [Region.wanted, List.getElem_toArray, List.getElem_cons_succ, List.getElem_cons_zero]
            have HK := Lib.hid hK
            clear hK
            gi_wp2
            refine HK.out _ _ (wpTail_end ?_)
            clear HK
            go_wp2
            go_roundg (C - (k + 1))
            case rel => exact ⟨k + 1, vs2.set k (.slice A8 (i + 1) c8), rfl, by omega, val_int (by omega), HT1⟩
            case measure => omega
        · obtain rfl : C = k := by omega
          go_wp2
          go_roundg (m.length - (i + 1))
          case rel => exact ⟨i + 1, vs2, rfl, by omega, val_int (by omega), Lib.hid (HU.out.congr (fun j hj => colX_next X i C j hj))⟩
          case measure => omega
    · obtain rfl : i = m.length := by omega
      go_wp2
      go_ret
      refine ⟨_, C, C, rfl, HT.out.below, ?_⟩
      have hl := HT.out.len
      refine ⟨_, C, by rw [show (turnS m C).length = C by simp [turnS]], by simp [turnS], by unfold maxLen; omega, fun h0 => ⟨w.heap.size, 0, rfl, fun j hj => ?_⟩⟩
      have hjC : j < C := by simpa [turnS] using hj
      have hj2 : j < vs.length := by omega
      refine ⟨vs[j], by rw [Nat.zero_add, HT.out.blk.cell, List.getElem?_eq_getElem hj2], ?_⟩
      have he : (turnS m C).getD j [] = (List.range m.length).map fun i => atM m i j := by
        unfold turnS; rw [List.getD_eq_getElem?_getD, List.getElem?_map, List.getElem?_range hjC]; rfl
      rw [he]
      refine (own_vq (HT.out.own j hj2) (by unfold colX; simp) (fun t ht => ?_)).1
      have ht2 : t < m.length := by unfold colX at ht; simpa using ht
      have e3 : ((List.range m.length).map fun i => atM m i j).getD t 0 = atM m t j := by
        rw [List.getD_eq_getElem?_getD, List.getElem?_map, List.getElem?_range ht2]; rfl
      rw [e3]
      have := (HX.out t ht2).2.el j
      have e4 : (colX X m.length 0 j)[t]'ht = X t j := by unfold colX; simp
      rw [e4]
      exact cq_stable.below this HT.out.below
end Go.Proofs.YtdkfdamihnieiaaGreat
end
