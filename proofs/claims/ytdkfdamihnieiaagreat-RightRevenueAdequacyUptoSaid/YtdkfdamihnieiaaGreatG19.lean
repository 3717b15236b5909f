/- Matrices in memory. -/
import Derived.Test.YtdkfdamihnieiaaGreatG18
set_option linter.unusedSimpArgs false
set_option linter.unusedVariables false
section
open Go Go.RowKit Go.Shelf
namespace Go.Proofs.YtdkfdamihnieiaaGreat
open Go.Proofs
/-- Canonical, its words in blocks that ok lets. -/
def cqo (ok : Nat → Prop) : Elt := fun w v q => isQc ok w v q
theorem cqo_stable (ok : Nat → Prop) : Stable (cqo ok) := ⟨fun h hb => isQc.below h hb, fun h hu hk => isQc.setX h hu hk⟩
/-- A made row, its words in blocks that ok lets. -/
structure MadeO (ok : Nat → Prop) (w W : World) (b : Nat) (qs : List Rat) (l : List Qx) : Prop where
  blk : Blk W b 44 (qcs l)
  len : l.length = qs.length
  el : ∀ j (hj : j < l.length), isQc ok W (l[j]).v (qs.getD j 0)
  below : Below w.heap.size w W
  new : w.heap.size ≤ b
theorem MadeO.later {ok w W W' b qs l} (H : MadeO ok w W b qs l) (hb : Below W.heap.size W W') : MadeO ok w W' b qs l := ⟨H.blk.below hb, H.len, fun j hj => isQc.below (H.el j hj) hb, bthen H.below hb, H.new⟩
theorem MadeO.slices {ok w W b qs l} (H : MadeO ok w W b qs l) {k : Nat} (hk : k < l.length) : (l[k]).sl := isQc.slices (H.el k hk)
theorem MadeO.set {ok w W b qs l} (H : MadeO ok w W b qs l) {k : Nat} (hk : k < l.length) {y : Qx} {q : Rat} (hy : isQc ok W y.v q) : MadeO ok w (st4 W b (k * 4) y) b (qs.set k q) (l.set k y) := by
  refine ⟨st4_blk H.blk hk y, by simp [H.len], fun j hj => ?_, st4_below H.below H.new, H.new⟩
  have hj2 : j < l.length := by simpa using hj
  rw [getD_set]
  by_cases h : k = j
  · subst h
    rw [if_pos ⟨rfl, by have := H.len; omega⟩]
    simp only [List.getElem_set_self]
    exact st4_el (cqo_stable ok) H.blk hk (H.slices hk) hy
  · rw [if_neg (fun h2 => h h2.1)]
    simp only [List.getElem_set_ne h]
    exact st4_el (cqo_stable ok) H.blk hk (H.slices hk) (H.el j hj2)
theorem MadeO.start {ok : Nat → Prop} {w W : World} (hb : Below w.heap.size w W) (n : Nat) : MadeO ok w (W.alloc (.cells (qcs (List.replicate n Qx.zero)).toArray 44)) W.heap.size (List.replicate n 0) (List.replicate n Qx.zero) := by
  refine ⟨Blk.new _ _ _ rfl, by simp, fun j hj => ?_, bal hb, hb.size⟩
  have hj2 : j < n := by simpa using hj
  simp only [List.getElem_replicate]
  rw [show (List.replicate n (0 : Rat)).getD j 0 = 0 by simp [List.getD_eq_getElem?_getD, hj2]]
  exact isQc.zero
theorem make_O (ok : Nat → Prop) (w : World) (n : Nat) (h : n ≤ 1000000000) : ∃ W1, (Instr.makeSlice 26 (.int .i64 (n : Int)) (.int .i64 (n : Int))).run Tryz.prog w = .ok (.slice (some ⟨w.heap.size, 0, none⟩) n n) W1 ∧ Hid (MadeO ok w W1 w.heap.size (List.replicate n 0) (List.replicate n Qx.zero)) ∧ w.heap.size < W1.heap.size := by
  refine ⟨_, make_q w n (by omega) (by omega), Lib.hid ?_, by simp⟩
  exact MadeO.start (b0 w) n
theorem MadeO.four {ok w W b qs l} (H : MadeO ok w W b qs l) {k : Nat} (hk : k < l.length) : ∃ (n m : Bool) (p q : Option Addr × Nat × Nat), (W.cell? ⟨b, k * 4, none⟩ = some (.bool n) ∧ W.cell? ⟨b, k * 4 + 1, none⟩ = some (.slice p.1 p.2.1 p.2.2) ∧ W.cell? ⟨b, k * 4 + 2, none⟩ = some (.bool m) ∧ W.cell? ⟨b, k * 4 + 3, none⟩ = some (.slice q.1 q.2.1 q.2.2)) ∧ isQc ok W (.agg #[.bool n, .slice p.1 p.2.1 p.2.2, .bool m, .slice q.1 q.2.1 q.2.2]) (qs.getD k 0) := by
  have c := fun i (hi : i < 4) => (H.blk.cell (k * 4 + i)).trans (qcs_get l k i hk hi)
  have he := H.el k hk
  obtain ⟨⟨A, l1, c1, e1⟩, A2, l2, c2, e2⟩ := H.slices hk
  have c0 := c 0 (by omega)
  have c1' := c 1 (by omega)
  have c2' := c 2 (by omega)
  have c3 := c 3 (by omega)
  simp only [Qx.cs, e1, e2, List.getElem?_cons_zero, List.getElem?_cons_succ, Nat.add_zero] at c0 c1' c2' c3
  simp only [Qx.v, e1, e2] at he
  exact ⟨_, _, (A, l1, c1), (A2, l2, c2), ⟨c0, c1', c2', c3⟩, he⟩
theorem MadeO.frozen {ok w W b qs l} (H : MadeO ok w W b qs l) (j : Nat) : W.frozen? ⟨b, j, none⟩ = false := H.blk.frozen j
/-- A row: its block, its elements. -/
structure Row1 where
  b : Nat
  l : List Qx
def Row1.v (r : Row1) : Value := .slice (some ⟨r.b, 0, none⟩) r.l.length r.l.length
theorem own_type {W : World} {base n : Nat} {sv : Value} {xs : List Value} {e : TypeId} {size : Nat} (h : W.ownsRow base e size sv n xs) {b : Nat} {T : TypeId} {cs : List Value} (hb : Blk W b T cs) (hT : T ≠ e) : sv.ownBlock ≠ some b := by
  intro e1
  rcases h.2 with ⟨rfl, _⟩ | ⟨g, cap, cur, rfl, _, hh, _⟩
  · cases e1
  · injection e1 with e1
    simp only at e1
    subst e1
    unfold Blk at hb
    rw [hb] at hh; injection hh with hh; injection hh with _ hh _; exact hT hh
/-- A matrix whose rows are blocks of its own. -/
structure Grid (base : Nat) (W : World) (sv : Value) (m : List (List Rat)) (rs : List Row1) : Prop where
  own : W.ownsRow base 26 1 sv m.length (rs.map Row1.v)
  len : rs.length = m.length
  blk : ∀ i (hi : i < rs.length), Blk W (rs[i]).b 44 (qcs (rs[i]).l)
  rlen : ∀ i (hi : i < rs.length), (rs[i]).l.length = (m.getD i []).length
  el : ∀ i (hi : i < rs.length) j (hj : j < (rs[i]).l.length), isQc (okr sv) W ((rs[i]).l[j]).v ((m.getD i []).getD j 0)
  low : ∀ i (hi : i < rs.length), base ≤ (rs[i]).b
  apart : ∀ i j (hi : i < rs.length) (hj : j < rs.length), i ≠ j → (rs[i]).b ≠ (rs[j]).b
theorem Grid.start (base : Nat) (W : World) : Grid base W (.slice none 0 0) [] [] := ⟨World.ownsRow_nil _ _ _ _, rfl, fun i hi => by simp at hi, fun i hi => by simp at hi, fun i hi => by simp at hi, fun i hi => by simp at hi, fun i j hi => by simp at hi⟩
theorem Grid.later {base W W' sv m rs} (H : Grid base W sv m rs) (hb : Below W.heap.size W W') : Grid base W' sv m rs := ⟨row_below H.own hb, H.len, fun i hi => (H.blk i hi).below hb, H.rlen, fun i hi j hj => isQc.below (H.el i hi j hj) hb, H.low, H.apart⟩
theorem getD_snoc' {α : Type} (l : List α) (q d : α) (j : Nat) : (j < l.length → (l ++ [q]).getD j d = l.getD j d) ∧ (j = l.length → (l ++ [q]).getD j d = q) := by
  constructor
  · intro h; simp [List.getElem?_append_left, h]
  · rintro rfl; simp
theorem Grid.step {base W W1 sv m rs} (H : Grid base W sv m rs) {v' : Value} {r : Row1} {q : List Rat} (hb : Blk W r.b 44 (qcs r.l)) (hl : r.l.length = q.length) (he : ∀ j (hj : j < r.l.length), isQc (okr sv) W (r.l[j]).v (q.getD j 0)) (hlow : base ≤ r.b) (hap : ∀ i (hi : i < rs.length), (rs[i]).b ≠ r.b)
    (hown : W1.ownsRow base 26 1 v' (m.length + 1) (rs.map Row1.v ++ [r.v])) (hg : W.grownBy W1 sv.ownBlock) (hbk : ∀ g, v'.ownBlock = some g → sv.ownBlock = some g ∨ W.heap.size ≤ g) : Grid base W1 v' (m ++ [q]) (rs ++ [r]) := by
  have keep : ∀ {b : Nat} {cs : List Value}, Blk W b 44 cs → Blk W1 b 44 cs := fun {b cs} h => (hg.block b h.lt (fun e => own_type H.own h (by decide) e.symm)).trans h
  refine ⟨by simpa using hown, by simp [H.len], fun i hi => ?_, fun i hi => ?_, fun i hi j hj => ?_, fun i hi => ?_, fun i j hi hj hij => ?_⟩
  · by_cases h : i < rs.length
    · rw [List.getElem_append_left h]; exact keep (H.blk i h)
    · have : i = rs.length := by simp at hi; omega
      subst this; simp only [List.getElem_append_right (Nat.le_refl _), Nat.sub_self, List.getElem_cons_zero]; exact keep hb
  · by_cases h : i < rs.length
    · rw [List.getElem_append_left h, (getD_snoc' m q [] i).1 (by have := H.len; omega)]; exact H.rlen i h
    · have : i = rs.length := by simp at hi; omega
      subst this; rw [(getD_snoc' m q [] _).2 H.len]; simp only [List.getElem_append_right (Nat.le_refl _), Nat.sub_self, List.getElem_cons_zero]; exact hl
  · by_cases h : i < rs.length
    · simp only [List.getElem_append_left h] at hj ⊢
      rw [(getD_snoc' m q [] i).1 (by have := H.len; omega)]
      exact (H.el i h j hj).appended hg hbk
    · have : i = rs.length := by simp at hi; omega
      subst this
      rw [(getD_snoc' m q [] _).2 H.len]
      simp only [List.getElem_append_right (Nat.le_refl _), Nat.sub_self, List.getElem_cons_zero] at hj ⊢
      exact (he j hj).appended hg hbk
  · by_cases h : i < rs.length
    · rw [List.getElem_append_left h]; exact H.low i h
    · have : i = rs.length := by simp at hi; omega
      subst this; simp only [List.getElem_append_right (Nat.le_refl _), Nat.sub_self, List.getElem_cons_zero]; exact hlow
  · by_cases h : i < rs.length
    · by_cases h2 : j < rs.length
      · rw [List.getElem_append_left h, List.getElem_append_left h2]; exact H.apart i j h h2 hij
      · have : j = rs.length := by simp at hj; omega
        subst this; simp only [List.getElem_append_left h, List.getElem_append_right (Nat.le_refl _), Nat.sub_self, List.getElem_cons_zero]; exact hap i h
    · have : i = rs.length := by simp at hi; omega
      subst this
      have h2 : j < rs.length := by simp at hj; omega
      simp only [List.getElem_append_left h2, List.getElem_append_right (Nat.le_refl _), Nat.sub_self, List.getElem_cons_zero]; exact (hap j h2).symm
/-- A matrix whose rows are read. -/
structure MatO (ok : Nat → Prop) (base n0 : Nat) (W : World) (sv : Value) (vs : List Value) (m : List (List Rat)) : Prop where
  own : W.ownsRow base 26 1 sv m.length vs
  el : ∀ i (hi : i < vs.length), Vq n0 (cqo ok) W (vs[i]) (m.getD i [])
theorem MatO.len {ok base n0 W sv vs m} (H : MatO ok base n0 W sv vs m) : vs.length = m.length := by have := H.own.1; omega
theorem MatO.later {ok base n0 W W' sv vs m} (H : MatO ok base n0 W sv vs m) (hb : Below W.heap.size W W') : MatO ok base n0 W' sv vs m := ⟨row_below H.own hb, fun i hi => (H.el i hi).below (cqo_stable ok) hb⟩
theorem Grid.mat {base n0 W sv m rs} (H : Grid base W sv m rs) (hl : ∀ i, (m.getD i []).length ≤ 1000000) : MatO (fun _ => True) base n0 W sv (rs.map Row1.v) m := by
  refine ⟨H.own, fun i hi => ?_⟩
  have hi2 : i < rs.length := by simpa using hi
  rw [List.getElem_map]
  have := Blk.vq (n0 := n0) (E := cq) (qs := m.getD i []) (c := (rs[i]).l.length) (H.blk i hi2) (H.rlen i hi2) (Nat.le_refl _) (by have := H.rlen i hi2; have := hl i; unfold maxLen; omega) (fun j hj => (H.el i hi2 j hj).any)
  exact this
/-- A matrix that is read. -/
def Vm (n0 : Nat) (E : Elt) (w : World) (v : Value) (m : List (List Rat)) : Prop :=
  ∃ A c, v = .slice A m.length c ∧ m.length ≤ c ∧ c ≤ maxLen ∧ (0 < m.length → ∃ b o, A = some ⟨b, o, none⟩ ∧ ∀ j, j < m.length → ∃ u, w.cell? ⟨b, o + j, none⟩ = some u ∧ Vq n0 E w u (m.getD j []))
theorem Vm.shape {n0 E w v m} (h : Vm n0 E w v m) : ∃ A l c, v = .slice A l c := by obtain ⟨A, c, e, _⟩ := h; exact ⟨A, _, c, e⟩
theorem Vm.len {n0 E w A l c m} (h : Vm n0 E w (.slice A l c) m) : l = m.length := by obtain ⟨A', c', e, _⟩ := h; injection e
theorem Vm.lim {n0 E w v m} (h : Vm n0 E w v m) : m.length ≤ 9223372036854775807 := by obtain ⟨A, c, e, h1, h2, _⟩ := h; unfold maxLen at h2; omega
theorem Vm.at {n0 E w A l c m} (h : Vm n0 E w (.slice A l c) m) {k : Nat} (hk : k < m.length) : ∃ b o A' c', A = some ⟨b, o, none⟩ ∧ w.cell? ⟨b, o + k, none⟩ = some (.slice A' (m.getD k []).length c') ∧ Vq n0 E w (.slice A' (m.getD k []).length c') (m.getD k []) := by
  obtain ⟨A', c', e, h1, h2, h3⟩ := h
  injection e with e1 _ _; subst e1
  obtain ⟨b, o, hA, hc⟩ := h3 (by omega)
  obtain ⟨u, hu, hq⟩ := hc k hk
  obtain ⟨A2, c2, rfl, h4⟩ := hq
  exact ⟨b, o, A2, c2, hA, hu, ⟨A2, c2, rfl, h4⟩⟩
theorem Vm.below {n0 E w w' v m} (hE : Stable E) (h : Vm n0 E w v m) (hb : Below w.heap.size w w') : Vm n0 E w' v m := by
  obtain ⟨A, c, e, h1, h2, h3⟩ := h
  refine ⟨A, c, e, h1, h2, fun h0 => ?_⟩
  obtain ⟨b, o, hA, hc⟩ := h3 h0
  refine ⟨b, o, hA, fun j hj => ?_⟩
  obtain ⟨u, hu, hq⟩ := hc j hj
  exact ⟨u, (hb.cell (World.block_lt_of_cell? w _ hu)).trans hu, hq.below hE hb⟩
theorem Vm.nil {n0 E w c A} (h : c ≤ maxLen) : Vm n0 E w (.slice A 0 c) [] := ⟨A, c, rfl, Nat.zero_le _, h, fun h => by simp at h⟩
theorem MatO.vm {ok base n0 W sv vs m} (H : MatO ok base n0 W sv vs m) : Vm n0 (cqo ok) W sv m := by
  rcases H.own.2 with ⟨rfl, h0⟩ | ⟨g, cap, cur, rfl, hg, hh, h1, h2, h3, h4⟩
  · exact ⟨none, 0, by rw [h0], by omega, by unfold maxLen; omega, fun h => by omega⟩
  · refine ⟨_, cap, rfl, h1, h2, fun _ => ⟨g, 0, rfl, fun j hj => ?_⟩⟩
    have hj2 : j < vs.length := by rw [H.len]; exact hj
    refine ⟨vs[j], ?_, H.el j hj2⟩
    rw [Nat.zero_add, cell_of_row W g _ cur 26 (0, 0) hh]
    have h5 : vs[j]? = some vs[j] := List.getElem?_eq_getElem hj2
    have h6 : (List.take (m.length * 1) cur.toList)[j]? = vs[j]? := by rw [h4]
    rw [List.getElem?_take_of_lt (by omega), h5] at h6
    simpa using h6
theorem Vm.imp {n0 : Nat} {E E' : Elt} {w : World} {v : Value} {m : List (List Rat)} (h : Vm n0 E w v m) (hE : ∀ v q, (∃ r ∈ m, q ∈ r) → E w v q → E' w v q) : Vm n0 E' w v m := by
  obtain ⟨A, c, e, h1, h2, h3⟩ := h
  refine ⟨A, c, e, h1, h2, fun h0 => ?_⟩
  obtain ⟨b, o, hA, hc⟩ := h3 h0
  refine ⟨b, o, hA, fun j hj => ?_⟩
  obtain ⟨u, hu, hq⟩ := hc j hj
  refine ⟨u, hu, hq.imp (fun v q hq' => hE v q ⟨m.getD j [], ?_, hq'⟩)⟩
  rw [List.getD_eq_getElem?_getD, List.getElem?_eq_getElem hj]; exact List.getElem_mem hj
def rowsB (m : List (List Rat)) (B : Nat) : Prop := ∀ r ∈ m, ∀ q ∈ r, qB q B
theorem Vm.rq {n0 w v m B} (h : Vm n0 cq w v m) (hB : rowsB m B) : Vm n0 (YtdkfdamihnieiaaGreat.rq B) w v m := h.imp fun v q ⟨r, hr, hq⟩ he => cq_rq he (hB r hr q hq)
end Go.Proofs.YtdkfdamihnieiaaGreat
end
section
/- Contracts of package mat, part 1: Cols, cut, At, Resize's element. -/
open Go Go.RowKit Go.Shelf
namespace Go.Proofs.YtdkfdamihnieiaaGreat
open Go.Proofs
/-- The longest row. -/
def colsL (m : List (List Rat)) : Nat := m.foldl (fun n r => max n r.length) 0
theorem colsL_take {m : List (List Rat)} {k : Nat} (hk : k < m.length) : colsL (m.take (k + 1)) = max (colsL (m.take k)) (m.getD k []).length := by
  unfold colsL
  rw [List.take_succ_eq_append_getElem hk, List.foldl_append, List.getD_eq_getElem?_getD, List.getElem?_eq_getElem hk]; rfl
set_option maxHeartbeats 1000000 in
theorem cols_c {n0 : Nat} {E : Elt} {w : World} {v : Value} {m : List (List Rat)} (h : Vm n0 E w v m) : Calls Tryz.prog 156 #[v] w fun e w' => e = .returned (.int .i64 (colsL m : Int)) ∧ w' = w := by
  obtain ⟨A, l, c, rfl⟩ := h.shape
  obtain rfl := h.len
  have hm := h.lim
  go_enter Tryz.func156, Tryz.ntmps156
  go_wp2
  go_loopw [2, 7] (fun nv iv wr => ∃ k n : Nat, k ≤ m.length ∧ iv = .int .i64 (k : Int) ∧ nv = .int .i64 (n : Int) ∧ wr = w ∧ Hid (n = colsL (m.take k))) (fun _ iv _ => m.length - (intOf iv).toNat)
  case atStart => exact ⟨0, 0, by omega, rfl, rfl, rfl, Lib.hid rfl⟩
  case round =>
    obtain ⟨k, n, hk, rfl, rfl, rfl, HN⟩ := hrel
    by_cases hlt : k < m.length
    · obtain ⟨b, o, A', c', rfl, x0, hq⟩ := h.at hlt
      have ht := colsL_take hlt
      obtain ⟨r, hr⟩ : ∃ r, r = (m.getD k []).length := ⟨_, rfl⟩
      rw [← hr] at x0 ht
      rw [← HN.out] at ht
      have HT := Lib.hid ht
      clear ht hr hq
      by_cases hnr : n ≤ r
      · have h1 : max (n : Int) (r : Int) = r := by omega
        go_wp2
        refine ⟨⟨k + 1, r, by omega, val_int (by omega), val_int (by split <;> omega), trivial, Lib.hid ?_⟩, by simp [intOf]; omega⟩
        rw [HT.out]; omega
      · have h1 : max (n : Int) (r : Int) = n := by omega
        go_wp2
        refine ⟨⟨k + 1, n, by omega, val_int (by omega), val_int (by split <;> omega), trivial, Lib.hid ?_⟩, by simp [intOf]; omega⟩
        rw [HT.out]; omega
    · obtain rfl : k = m.length := by omega
      rw [List.take_length] at HN
      go_wp2
      go_ret
      exact ⟨by rw [HN.out]; rfl, rfl⟩
theorem cut_c (w : World) (n : Nat) (hn : n ≤ 1024) : Calls Tryz.prog 198 #[.int .i64 (n : Int)] w fun e w' => e = .returned (.int .i64 (n : Int)) ∧ w' = w := by
  go_enter Tryz.func198, Tryz.ntmps198
  go_wp2
  go_ret
  exact ⟨rfl, rfl⟩
def atM (m : List (List Rat)) (i k : Nat) : Rat := (m.getD i []).getD k 0
set_option maxHeartbeats 2000000 in
theorem matAt_c {n0 B : Nat} {w : World} {v : Value} {m : List (List Rat)} (h : Vm n0 (rq B) w v m) (i k : Nat) (hB0 : 0 < B) (hB : B ≤ 400000000) : Calls Tryz.prog 200 #[v, .int .i64 (i : Int), .int .i64 (k : Int)] w (RetQ w (fresh w) (atM m i k)) := by
  obtain ⟨A, l, c, rfl⟩ := h.shape
  obtain rfl := h.len
  have hm := h.lim
  by_cases hi : i < m.length
  · obtain ⟨b, o, A', c', rfl, x0, hq⟩ := h.at hi
    have hb := World.block_lt_of_cell? w _ x0
    simp only at hb
    have hne : w.heap.size ≠ b := by omega
    have hl1 := hq.rv.cap
    have hl2 := hq.rv.lim
    obtain ⟨r, hr⟩ : ∃ r, r = m.getD i [] := ⟨_, rfl⟩
    unfold atM
    rw [← hr] at hq x0 hl1 ⊢
    unfold maxLen at hl2
    by_cases hk : k < r.length
    · obtain ⟨b2, o2, n, s, mm, t, rfl, hx, y0, y1, y2, y3⟩ := hq.elem hk
      obtain ⟨⟨A1, l1, c1, rfl⟩, A2, l2, c2, rfl⟩ := (rq_ratl hB0).slices hx
      have hb2 := World.block_lt_of_cell? w _ y0
      simp only at hb2
      have hne2 : w.heap.size ≠ b2 := by omega
      have HX := Lib.hid (canon_q (isQ.al (o := .cells #[.bool false, .slice none 0 0, .bool false, .slice none 0 0] 44) hx) hB0 hB)
      clear hr hq hx h
      go_enter Tryz.func200, Tryz.ntmps200
      go_wp2_with (go_at_call 90; (with_reducible refine Calls.mono HX.out ?_); rintro e w1 ⟨n3, A3, l3, c3, m3, D3, e3, g3, rfl, hb1, hr1⟩; have B1 := Bx.step (Bx.refl (n := w.heap.size + 1) (w.alloc (Obj.cells #[.bool false, .slice none 0 0, .bool false, .slice none 0 0] 44)) (by simp)) hb1; have k1 := B1.cell; have f1 := B1.frozen; have Q1 := bthen (bal (b0 _)) hb1)
      refine bodyPost_ret (v := .agg #[.bool n3, .slice A3 l3 c3, .bool m3, .slice D3 e3 g3]) ?_ rfl ?_
      · simp [results, Tryz.results200, go_sem, k1]
      · exact RetQ.set4 Q1 hr1 (Nat.le_refl _) (by simp)
    · rw [show r.getD k 0 = 0 by rw [List.getD_eq_getElem?_getD, List.getElem?_eq_none (by omega)]; rfl]
      have hk2 : ¬ (k : Int) < (r.length : Int) := by omega
      clear hr hq h
      go_enter Tryz.func200, Tryz.ntmps200
      go_wp2
      refine bodyPost_ret (v := .agg #[.bool false, .slice none 0 0, .bool false, .slice none 0 0]) ?_ rfl ?_
      · simp [results, Tryz.results200, go_sem]
      · exact ⟨_, _, _, _, _, _, _, _, rfl, bal (b0 _), isQc.zero⟩
  · rw [show atM m i k = 0 by unfold atM; rw [List.getD_eq_getElem?_getD (l := m), List.getElem?_eq_none (by omega)]; rfl]
    have hi2 : ¬ (i : Int) < (m.length : Int) := by omega
    clear h
    go_enter Tryz.func200, Tryz.ntmps200
    go_wp2
    refine bodyPost_ret (v := .agg #[.bool false, .slice none 0 0, .bool false, .slice none 0 0]) ?_ rfl ?_
    · simp [results, Tryz.results200, go_sem]
    · exact ⟨_, _, _, _, _, _, _, _, rfl, bal (b0 _), isQc.zero⟩
set_option maxHeartbeats 2000000 in
theorem resize1_c {n0 B : Nat} {w : World} {v : Value} {m : List (List Rat)} {g : Nat} (h : Vm n0 (rq B) w v m) (c0 : w.cell? ⟨g, 0, none⟩ = some v) (i k : Nat) (hB0 : 0 < B) (hB : B ≤ 400000000) : Calls Tryz.prog 199 #[.int .i64 (i : Int), .int .i64 (k : Int), .pointer (some ⟨g, 0, none⟩)] w (RetQ w (fresh w) (atM m i k)) := by
  have HX := Lib.hid (matAt_c (h.below (rq_stable B) (bal (b0 w) (o := .cells #[.bool false, .slice none 0 0, .bool false, .slice none 0 0] 44))) i k hB0 hB)
  obtain ⟨A, l, c, rfl⟩ := h.shape
  have hg := World.block_lt_of_cell? w _ c0
  simp only at hg
  have hne : w.heap.size ≠ g := by omega
  clear h
  go_enter Tryz.func199, Tryz.ntmps199
  go_wp2_with (go_at_call 200; (with_reducible refine Calls.mono HX.out ?_); rintro e w1 ⟨n3, A3, l3, c3, m3, D3, e3, g3, rfl, hb1, hr1⟩; have B1 := Bx.step (Bx.refl (n := w.heap.size + 1) (w.alloc (Obj.cells #[.bool false, .slice none 0 0, .bool false, .slice none 0 0] 44)) (by simp)) hb1; have k1 := B1.cell; have f1 := B1.frozen; have Q1 := bthen (bal (b0 _)) hb1)
  refine bodyPost_ret (v := .agg #[.bool n3, .slice A3 l3 c3, .bool m3, .slice D3 e3 g3]) ?_ rfl ?_
  · simp [results, Tryz.results199, go_sem, k1]
  · exact RetQ.set4 Q1 hr1 (Nat.le_refl _) (by simp)
set_option maxHeartbeats 2000000 in
theorem concat1_c {n0 B : Nat} {w : World} {va vb : Value} {ma mb : List (List Rat)} {gn ga gb n : Nat} (ha : Vm n0 (rq B) w va ma) (hb : Vm n0 (rq B) w vb mb) (cn : w.cell? ⟨gn, 0, none⟩ = some (.int .i64 (n : Int))) (ca : w.cell? ⟨ga, 0, none⟩ = some va) (cb : w.cell? ⟨gb, 0, none⟩ = some vb) (i k : Nat) (hk : k ≤ 100000000) (hB0 : 0 < B) (hB : B ≤ 400000000) :
    Calls Tryz.prog 236 #[.int .i64 (i : Int), .int .i64 (k : Int), .pointer (some ⟨gn, 0, none⟩), .pointer (some ⟨ga, 0, none⟩), .pointer (some ⟨gb, 0, none⟩)] w (RetQ w (fresh w) (if k < n then atM ma i k else atM mb i (k - n))) := by
  have HA := Lib.hid (matAt_c (ha.below (rq_stable B) (bal (b0 w) (o := .cells #[.bool false, .slice none 0 0, .bool false, .slice none 0 0] 44))) i k hB0 hB)
  have HB := Lib.hid (matAt_c (hb.below (rq_stable B) (bal (b0 w) (o := .cells #[.bool false, .slice none 0 0, .bool false, .slice none 0 0] 44))) i (k - n) hB0 hB)
  obtain ⟨A, l, c, rfl⟩ := ha.shape
  obtain ⟨A2, l2, c2, rfl⟩ := hb.shape
  have hg1 := World.block_lt_of_cell? w _ cn
  have hg2 := World.block_lt_of_cell? w _ ca
  have hg3 := World.block_lt_of_cell? w _ cb
  simp only at hg1 hg2 hg3
  have hne1 : w.heap.size ≠ gn := by omega
  have hne2 : w.heap.size ≠ ga := by omega
  have hne3 : w.heap.size ≠ gb := by omega
  clear ha hb
  by_cases hkn : k < n
  · rw [if_pos hkn]
    have hkn2 : (k : Int) < (n : Int) := by omega
    go_enter Tryz.func236, Tryz.ntmps236
    go_wp2_with (go_at_call 200; (with_reducible refine Calls.mono HA.out ?_); rintro e w1 ⟨n3, A3, l3, c3, m3, D3, e3, g3, rfl, hb1, hr1⟩; have B1 := Bx.step (Bx.refl (n := w.heap.size + 1) (w.alloc (Obj.cells #[.bool false, .slice none 0 0, .bool false, .slice none 0 0] 44)) (by simp)) hb1; have k1 := B1.cell; have f1 := B1.frozen; have Q1 := bthen (bal (b0 _)) hb1)
    refine bodyPost_ret (v := .agg #[.bool n3, .slice A3 l3 c3, .bool m3, .slice D3 e3 g3]) ?_ rfl ?_
    · simp [results, Tryz.results236, go_sem, k1]
    · exact RetQ.set4 Q1 hr1 (Nat.le_refl _) (by simp)
  · rw [if_neg hkn]
    have hkn2 : ¬ (k : Int) < (n : Int) := by omega
    have hsub : IntKind.i64.wrap ((k : Int) - (n : Int)) = (k : Int) - (n : Int) := by rw [IntKind.wrap_i64]; omega
    have hcast : ((k - n : Nat) : Int) = (k : Int) - (n : Int) := by omega
    rw [hcast] at HB
    clear hcast
    go_enter Tryz.func236, Tryz.ntmps236
    go_wp2_with (go_at_call 200; (with_reducible refine Calls.mono HB.out ?_); rintro e w1 ⟨n3, A3, l3, c3, m3, D3, e3, g3, rfl, hb1, hr1⟩; have B1 := Bx.step (Bx.refl (n := w.heap.size + 1) (w.alloc (Obj.cells #[.bool false, .slice none 0 0, .bool false, .slice none 0 0] 44)) (by simp)) hb1; have k1 := B1.cell; have f1 := B1.frozen; have Q1 := bthen (bal (b0 _)) hb1)
    refine bodyPost_ret (v := .agg #[.bool n3, .slice A3 l3 c3, .bool m3, .slice D3 e3 g3]) ?_ rfl ?_
    · simp [results, Tryz.results236, go_sem, k1]
    · exact RetQ.set4 Q1 hr1 (Nat.le_refl _) (by simp)
end Go.Proofs.YtdkfdamihnieiaaGreat
end
section
/- Contracts of package mat, part 2: made. -/
open Go Go.RowKit Go.Shelf
namespace Go.Proofs.YtdkfdamihnieiaaGreat
open Go.Proofs
theorem Tryz.under56 : Tryz.prog.underlying 56 = some (.slice 26) := by kernel_rfl
theorem Tryz.info26 : (Tryz.prog.info? 26).map (fun i => (i.zero, i.size, i.bytes)) = some (some (.slice none 0 0), 1, 24) := by kernel_rfl
def gridL (R : Nat → Nat → Rat) (r c : Nat) : List (List Rat) := (List.range r).map fun i => (List.range c).map fun k => R i k
theorem gridL_succ (R : Nat → Nat → Rat) (r c : Nat) : gridL R (r + 1) c = gridL R r c ++ [(List.range c).map fun k => R r k] := by unfold gridL; rw [List.range_succ, List.map_append]; rfl
theorem gridL_length (R : Nat → Nat → Rat) (r c : Nat) : (gridL R r c).length = r := by simp [gridL]
/-- The call returns a matrix of its own. -/
def RetG (w : World) (m : List (List Rat)) : Ending → World → Prop := fun e w' => ∃ A l c rs, e = .returned (.slice A l c) ∧ Below w.heap.size w w' ∧ Grid w.heap.size w' (.slice A l c) m rs
set_option maxRecDepth 100000 in
set_option maxHeartbeats 4000000 in
theorem grid_c {w : World} {B : Nat} (r c : Nat) (gf : Nat) (lb : Array Value) (R : Nat → Nat → Rat) (eg : ∀ args w, (callFunc gf args).run Tryz.prog w = .ok (.enter gf args) w)
    (hf : ∀ W i k, Below w.heap.size w W → i < r → k < c → Calls Tryz.prog gf (#[.int .i64 (i : Int), .int .i64 (k : Int)] ++ lb) W (RetQ W (fresh W) (R i k))) (hB : ∀ i k, qB (R i k) B) (hB0 : 0 < B) (hBm : B ≤ 400000000) (hr : r ≤ 1024) (hc : c ≤ 1024) :
    Calls Tryz.prog 201 #[.agg #[.int .i64 (r : Int), .int .i64 (c : Int), .func (.func gf) #[] lb]] w (RetG w (gridL R r c)) := by
  obtain ⟨i0, hi, hz0, hz1, hz2⟩ := info_parts' Tryz.info26
  have HF := Lib.hid hf
  have HB := Lib.hid hB
  clear hf hB
  go_enter Tryz.func201, Tryz.ntmps201
  go_wp2
  go_loopw [3, 9] (fun sv iv wr => ∃ (i : Nat) (A' : Option Addr) (c' : Nat) (rs : List Row1), i ≤ r ∧ iv = .int .i64 (i : Int) ∧ sv = .slice A' i c' ∧ Hid (Grid w.heap.size wr (.slice A' i c') (gridL R i c) rs) ∧ Below (w.alloc (.cells #[.int .i64 (r : Int), .int .i64 (c : Int), .func (.func gf) #[] lb] 209)).heap.size (w.alloc (.cells #[.int .i64 (r : Int), .int .i64 (c : Int), .func (.func gf) #[] lb] 209)) wr) (fun _ iv _ => r - (intOf iv).toNat)
  case atStart => exact ⟨0, none, 0, [], by omega, rfl, rfl, Lib.hid (Grid.start _ _), b0 _⟩
  case round =>
    obtain ⟨i, A', c', rs, hir, rfl, rfl, HG, hbl⟩ := hrel
    have hbx := fun j => (hbl.cell (p := ⟨w.heap.size, j, none⟩) (by simp)).trans (World.cell?_alloc_new w _ 209 j)
    have x0 := hbx 0
    have x1 := hbx 1
    have x2 := hbx 2
    simp only [List.getElem?_toArray, List.getElem?_cons_zero, List.getElem?_cons_succ] at x0 x1 x2
    clear hbx
    by_cases hlt : i < r
    · obtain ⟨wo, rfl⟩ : ∃ wo : World, wo = wr := ⟨_, rfl⟩
      obtain ⟨W1, mk, HM, hlt1⟩ := make_O (fun b => wo.heap.size ≤ b) wo c (by omega)
      go_wp2
      clear mk x1
      go_loopw [17] (fun kv wr => ∃ (k : Nat) (l' : List Qx), k ≤ c ∧ kv = .int .i64 (k : Int) ∧ Hid (MadeO (fun b => wo.heap.size ≤ b) wo wr wo.heap.size (fillL (R i) c k) l')) (fun kv _ => c - (intOf kv).toNat)
      case atStart => exact ⟨0, _, by omega, rfl, by rw [fillL_zero]; exact HM⟩
      case round =>
        obtain ⟨k, l', hk, rfl, HMk⟩ := hrel
        have hb2 : Below w.heap.size w wr := bthen (bal (b0 w)) (bthen hbl HMk.out.below)
        have y2 := (HMk.out.below.cell (p := ⟨w.heap.size, 2, none⟩) (World.block_lt_of_cell? wo _ x2)).trans x2
        have HB2 := Lib.hid hb2
        clear HM hb2 x0 x2
        by_cases hkc : k < c
        · have hkl : k < l'.length := by rw [HMk.out.len, fillL_length]; exact hkc
          have HA := Lib.hid (HF.out wr i k HB2.out hlt hkc)
          go_wp2_with (first
            | ((with_reducible refine Calls.mono HA.out ?_); rintro e w1 ⟨n1, A1, l1, c1, m1, D1, e1, g1, rfl, hb1, hr1⟩; have HC := Lib.hid (canon_q (hr1.q (HB.out i k)) hB0 hBm); have Hb1 := Lib.hid hb1; clear hb1 hr1)
            | (go_at_call 90; (with_reducible refine Calls.mono HC.out ?_); rintro e w2 ⟨n3, A3, l3, c3, m3, D3, e3, g3, rfl, hb2, hr2⟩; have HM2 := Lib.hid (HMk.out.later (bthen Hb1.out hb2)); have HR2 := Lib.hid hr2; have hs2 : wr.heap.size ≤ w1.heap.size := Hb1.out.size; have hs3 := hb2.size; obtain ⟨m, m', p, q, ⟨k0, k1, k2, k3⟩, _⟩ := HM2.out.four hkl; have hf := HM2.out.frozen; have hlb := HM2.out.blk.lt; clear hb2 hr2))
          refine ⟨⟨k + 1, l'.set k ⟨n3, .slice A3 l3 c3, m3, .slice D3 e3 g3⟩, by omega, val_int (by omega), Lib.hid ?_⟩, by simp [intOf]; omega⟩
          have := HM2.out.set (k := k) (y := ⟨n3, .slice A3 l3 c3, m3, .slice D3 e3 g3⟩) hkl (HR2.out.mono (fun b _ hb => by have := HMk.out.below.size; simp [fresh] at hb; omega))
          rw [fillL_set] at this
          exact this
        · obtain rfl : k = c := by omega
          have hM := HMk.out
          have hll : l'.length = k := by rw [hM.len, fillL_length]
          rw [fillL_all] at hM
          have HMM := Lib.hid (hM.later (bal (b0 wr) (o := .cells #[.slice (some ⟨wo.heap.size, 0, none⟩) k k] 26)))
          have HGG := Lib.hid (HG.out.later (bthen hM.below (bal (b0 wr) (o := .cells #[.slice (some ⟨wo.heap.size, 0, none⟩) k k] 26))))
          clear hM
          have HGL := Lib.hid (gridL_length R i k)
          go_wp2_with (at_builtin; refine wpList_append_1 rfl (.tmp 30) (.tmp 32) 56 rfl w.heap.size 26 i0 (.slice none 0 0) 1 24 Tryz.under56 hi hz0 hz1 hz2 rfl (by decide) _ _ _ rfl HGG.out.own ⟨wr.heap.size, 0, none⟩ 1 1 [.slice (some ⟨wo.heap.size, 0, none⟩) k k] rfl rfl ?c1 ?c2 ?c3 ?c4 ?c5 ?_)
          case c1 =>
            intro j u hu
            rw [addr_add0, Nat.zero_add, World.cell?_alloc_new]; simpa using hu
          case c2 => intro u hu; simp at hu; subst hu; simp [Value.oneCell']
          case c3 => rw [HGL.out]; unfold maxLen; omega
          case c4 => rw [HGL.out]; omega
          case c5 => have := HB2.out.size; simp; omega
          intro A2 cc w3 hown' hgrow hblk
          have hst := HGG.out.step (r := ⟨wo.heap.size, l'⟩) (q := (List.range k).map (R i)) (v' := .slice A2 ((gridL R i k).length + 1) cc) HMM.out.blk HMM.out.len (fun j hj => (HMM.out.el j hj).mono (fun b _ hb e => by
            have h9 := (HG.out.own.lt b e).2
            omega)) (by have := hbl.size; simp at this; show w.heap.size ≤ wo.heap.size; omega) (fun i' hi' e => by
            have h9 := (HG.out.blk i' hi').lt
            simp only at e; omega) (by rw [show (Row1.v ⟨wo.heap.size, l'⟩) = .slice (some ⟨wo.heap.size, 0, none⟩) k k by unfold Row1.v; rw [hll]]; exact hown') hgrow (fun g hg => (hblk g hg).imp_right (fun h => by simpa using h))
          rw [HGL.out] at hst
          have HST := Lib.hid hst
          have HBL := Lib.hid (show Below (w.alloc (.cells #[.int .i64 (r : Int), .int .i64 (k : Int), .func (.func gf) #[] lb] 209)).heap.size (w.alloc (.cells #[.int .i64 (r : Int), .int .i64 (k : Int), .func (.func gf) #[] lb] 209)) w3 from (hbl.trans ((HMM.out.below).mono hbl.size)).grown hgrow (by have := HMM.out.below.size; have := hbl.size; omega) (fun g hg => by
            rcases HG.out.own.2 with ⟨e9, _⟩ | ⟨g9, cap9, cur9, e9, hg9, hh9, _⟩
            · rw [e9] at hg; cases hg
            · rw [e9] at hg; injection hg with hg; simp only at hg; subst hg
              rcases Nat.lt_or_ge w.heap.size g9 with h | h
              · simp; omega
              · exfalso
                have e10 : g9 = w.heap.size := by omega
                subst e10
                have h11 := (hbl.block w.heap.size (by simp)).trans (heap_alloc_new w (.cells #[.int .i64 (r : Int), .int .i64 (k : Int), .func (.func gf) #[] lb] 209))
                rw [hh9] at h11; injection h11 with h11; injection h11 with _ h11 _; exact absurd h11 (by decide)))
          clear hst hown' hgrow hblk
          go_wp2
          refine ⟨⟨i + 1, A2, cc, rs ++ [⟨wo.heap.size, l'⟩], by omega, val_int (by omega), by rw [HGL.out], Lib.hid ?_, HBL.out⟩, by simp [intOf]; omega⟩
          rw [gridL_succ]
          exact HST.out
    · obtain rfl : i = r := by omega
      go_wp2
      go_ret
      exact ⟨A', i, c', rs, rfl, bthen (bal (b0 w)) hbl, HG.out⟩
end Go.Proofs.YtdkfdamihnieiaaGreat
end
