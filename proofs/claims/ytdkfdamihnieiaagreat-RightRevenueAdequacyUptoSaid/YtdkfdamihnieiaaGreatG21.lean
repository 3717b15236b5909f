/- Package solve, part 3: column. -/
import Derived.Test.YtdkfdamihnieiaaGreatG20
import Derived.Deep.DeepCutAuto
set_option linter.unusedSimpArgs false
set_option linter.unusedVariables false
section
open Go Go.RowKit Go.Shelf
namespace Go.Proofs.YtdkfdamihnieiaaGreat
open Go.Proofs
attribute [local go_sem] Oper.semAt_some wide_fn wide_depth
/-- What the walk reads of a matrix under elimination. -/
theorem WorkI.reads {base n0 W g m p sv pv vs} (H : WorkI base n0 W g m p sv pv vs) (h0 : 0 < m.length) : ∃ go cap Ap cp, sv = .slice (some ⟨go, 0, none⟩) m.length cap ∧ pv = .slice Ap p.length cp ∧ base ≤ go ∧ go ≠ g ∧ go < W.heap.size ∧ g < W.heap.size ∧ (∀ i (hi : i < vs.length), W.cell? ⟨go, i, none⟩ = some vs[i]) := by
  obtain ⟨Ap, cp, rfl⟩ := own_slice H.piv
  rcases H.mat.own.2 with ⟨_, h1⟩ | ⟨go, cap, cur, rfl, hg, hh, h1, h2, h3, h4⟩
  · omega
  · refine ⟨go, cap, Ap, cp, rfl, rfl, hg, ?_, (Array.getElem?_eq_some_iff.1 hh).1, H.blk.lt, fun i hi => ?_⟩
    · rintro rfl
      have := H.blk
      unfold Blk at this
      rw [hh] at this; injection this with this; injection this with _ this _; exact absurd this (by decide)
    · rw [cell_of_row W go _ cur 26 (0, 0) hh]
      have h5 : vs[i]? = some vs[i] := List.getElem?_eq_getElem hi
      have h6 : (List.take (m.length * 1) cur.toList)[i]? = vs[i]? := by rw [h4]
      have := H.mat.len
      rw [List.getElem?_take_of_lt (by omega), h5] at h6
      simpa using h6
/-- A row of it, and an element. -/
theorem WorkI.elem {base n0 W g m p sv pv vs C} (H : WorkI base n0 W g m p sv pv vs) (hw : widthL m C) {i k : Nat} (hi : i < m.length) (hk : k < C) : ∃ (hi2 : i < vs.length) (b o c : Nat) (n mm : Bool) (x y : Option Addr × Nat × Nat), vs[i] = .slice (some ⟨b, o, none⟩) C c ∧ cq W (.agg #[.bool n, .slice x.1 x.2.1 x.2.2, .bool mm, .slice y.1 y.2.1 y.2.2]) (atM m i k) ∧ b < W.heap.size ∧
    W.cell? ⟨b, o + k * 4, none⟩ = some (.bool n) ∧ W.cell? ⟨b, o + k * 4 + 1, none⟩ = some (.slice x.1 x.2.1 x.2.2) ∧ W.cell? ⟨b, o + k * 4 + 2, none⟩ = some (.bool mm) ∧ W.cell? ⟨b, o + k * 4 + 3, none⟩ = some (.slice y.1 y.2.1 y.2.2) := by
  have hi2 : i < vs.length := by rw [H.mat.len]; exact hi
  have hv := H.mat.el i hi2
  obtain ⟨A, c, e, hR⟩ := hv
  have hl := hw i hi
  rw [hl] at e
  have hv : Vq n0 (cqo (okr pv)) W (.slice A C c) (m.getD i []) := ⟨A, c, by rw [hl], hR⟩
  obtain ⟨b, o, n, s, mm, t, rfl, hx, x0, x1, x2, x3⟩ := hv.elem (k := k) hk
  obtain ⟨⟨A1, l1, c1, rfl⟩, A2, l2, c2, rfl⟩ := isQc.slices hx
  have := World.block_lt_of_cell? W _ x0
  exact ⟨hi2, b, o, c, n, mm, (A1, l1, c1), (A2, l2, c2), e, isQc.any hx, this, x0, x1, x2, x3⟩
theorem WorkI.frozenO {base n0 W g m p go cap pv vs} {l : Nat} (H : WorkI base n0 W g m p (.slice (some ⟨go, 0, none⟩) l cap) pv vs) (j : Nat) : W.frozen? ⟨go, j, none⟩ = false := by
  rcases H.mat.own.2 with ⟨e, _⟩ | ⟨g', cap', cur, e, _, hh, _⟩
  · cases e
  · injection e with e _ _; injection e with e; injection e with e _ _; subst e
    simp [World.frozen?, hh]
theorem MatO.keep {ok : Nat → Prop} {base n0 W go n cap vs m} (H : MatO ok base n0 W (.slice (some ⟨go, 0, none⟩) n cap) vs m) (hn : n0 ≤ base) {i : Nat} (hi : i < vs.length) {E : Elt} (hE : Stable E) {x v : Value} {q : List Rat} (hv : Vq n0 E W v q) : Vq n0 E (W.setCell ⟨go, i, none⟩ x) v q := by
  have hml := H.len
  rcases H.own.2 with ⟨e, _⟩ | ⟨g', cap', cur, e, hg, hh, h1, h2, h3, h4⟩
  · cases e
  · injection e with e e3 e2
    injection e with e
    injection e with e _ _
    subst e e2
    have hcell : W.cell? ⟨go, i, none⟩ = some vs[i] := by
      rw [cell_of_row W go _ cur 26 (0, 0) hh]
      have h5 : vs[i]? = some vs[i] := List.getElem?_eq_getElem hi
      have h6 : (List.take (m.length * 1) cur.toList)[i]? = vs[i]? := by rw [h4]
      rw [List.getElem?_take_of_lt (by omega), h5] at h6
      simpa using h6
    obtain ⟨A0, c0, e0, _⟩ := H.el i hi
    obtain ⟨A', c', e', h'⟩ := hv
    exact ⟨A', c', e', h'.setX hE hcell (by rw [e0]; exact vk_slice _ _ _) (fun b hb ht => (tg.ne ht ⟨cur, (0, 0), hh⟩ (by decide)).symm) (Nat.le_trans hn hg)⟩
theorem MatO.setRow {ok : Nat → Prop} {base n0 W go n cap vs m} (H : MatO ok base n0 W (.slice (some ⟨go, 0, none⟩) n cap) vs m) (hn : n0 ≤ base) {i : Nat} (hi : i < vs.length) {A : Option Addr} {l c : Nat} {q : List Rat} (hv : Vq n0 (cqo ok) W (.slice A l c) q) : MatO ok base n0 (W.setCell ⟨go, i, none⟩ (.slice A l c)) (.slice (some ⟨go, 0, none⟩) n cap) (vs.set i (.slice A l c)) (m.set i q) := by
  have hml := H.len
  rcases H.own.2 with ⟨e, _⟩ | ⟨g', cap', cur, e, hg, hh, h1, h2, h3, h4⟩
  · cases e
  · injection e with e e3 e2
    injection e with e
    injection e with e _ _
    subst e e2
    have hcell : W.cell? ⟨go, i, none⟩ = some vs[i] := by
      rw [cell_of_row W go _ cur 26 (0, 0) hh]
      have h5 : vs[i]? = some vs[i] := List.getElem?_eq_getElem hi
      have h6 : (List.take (m.length * 1) cur.toList)[i]? = vs[i]? := by rw [h4]
      rw [List.getElem?_take_of_lt (by omega), h5] at h6
      simpa using h6
    obtain ⟨A0, c0, e0, _⟩ := H.el i hi
    have hkeep : ∀ {v : Value} {q : List Rat}, Vq n0 (cqo ok) W v q → Vq n0 (cqo ok) (W.setCell ⟨go, i, none⟩ (.slice A l c)) v q := by
      rintro v q ⟨A', c', e', h'⟩
      exact ⟨A', c', e', h'.setX (cqo_stable ok) hcell (by rw [e0]; exact vk_slice _ _ _) (fun b hb ht => (tg.ne ht ⟨cur, (0, 0), hh⟩ (by decide)).symm) (Nat.le_trans hn hg)⟩
    refine ⟨⟨by rw [List.length_set, List.length_set]; exact H.own.1, .inr ⟨go, cap, cur.setIfInBounds i (.slice A l c), by rw [List.length_set, e3], hg, ?_, by rw [List.length_set]; exact h1, h2, by simpa using h3, ?_⟩⟩, fun j hj => ?_⟩
    · obtain ⟨hlt, hk⟩ := Array.getElem?_eq_some_iff.1 hh
      show (W.heap.modify go _)[go]? = _
      rw [Array.getElem?_eq_getElem (by rw [Array.size_modify]; exact hlt), Array.getElem_modify_self, hk]
      rfl
    · rw [List.length_set, Array.toList_setIfInBounds, List.take_set, h4]
    · have hj2 : j < vs.length := by simpa using hj
      rw [getD_setL]
      by_cases h : i = j
      · subst h
        rw [if_pos ⟨rfl, by omega⟩]
        simp only [List.getElem_set_self]
        exact hkeep hv
      · rw [if_neg (fun h2 => h h2.1)]
        simp only [List.getElem_set_ne h]
        exact hkeep (H.el j hj2)
theorem WorkI.setRow {base n0 W g m p go n cap pv vs} (H : WorkI base n0 W g m p (.slice (some ⟨go, 0, none⟩) n cap) pv vs) (hn : n0 ≤ base) {i : Nat} (hi : i < vs.length) {A : Option Addr} {l c : Nat} {q : List Rat} (hv : Vq n0 (cqo (okr pv)) W (.slice A l c) q) (hne : go ≠ g) : WorkI base n0 (W.setCell ⟨go, i, none⟩ (.slice A l c)) g (m.set i q) p (.slice (some ⟨go, 0, none⟩) n cap) pv (vs.set i (.slice A l c)) := by
  refine ⟨H.blk.setNe _ hne, H.mat.setRow hn hi hv, ?_, H.low⟩
  refine ownsRow_setCell_other H.piv ?_ _
  intro e
  rcases H.mat.own.2 with ⟨e', _⟩ | ⟨g', cap', cur, e', hg, hh, _⟩
  · cases e'
  · injection e' with e' _ _
    injection e' with e'
    injection e' with e' _ _
    subst e'
    rcases H.piv.2 with ⟨e', _⟩ | ⟨g2, cap2, cur2, e', _, hh2, _⟩
    · rw [e'] at e; cases e
    · rw [e'] at e; injection e with e; simp only at e; subst e
      rw [hh] at hh2; injection hh2 with hh2; injection hh2 with _ hh2 _; exact absurd hh2 (by decide)
theorem f222_c (W : World) : Calls Tryz.prog 222 #[] W fun e w' => (∃ v, e = .returned v) ∧ w' = W := by
  go_enter Tryz.func222, Tryz.ntmps222
  go_wp2
  go_end0
  exact ⟨⟨_, rfl⟩, rfl⟩
theorem f223_c {W : World} {n m : Bool} {A D : Option Addr} {l c e g : Nat} : Calls Tryz.prog 223 #[.agg #[.bool n, .slice A l c, .bool m, .slice D e g]] W fun e w' => (∃ v, e = .returned v) ∧ Below W.heap.size W w' := by
  go_enter Tryz.func223, Tryz.ntmps223
  go_wp2
  go_end0
  exact ⟨⟨_, rfl⟩, bal (b0 _)⟩
theorem Tryz.under25 : Tryz.prog.underlying 25 = some (.slice 3) := by kernel_rfl
theorem Tryz.info3 : (Tryz.prog.info? 3).map (fun i => (i.zero, i.size, i.bytes)) = some (some (.int .i64 0), 1, 8) := by kernel_rfl
theorem WorkI.pushB {base n0 W W3 g m p sv pv vs} (H : WorkI base n0 W g m p sv pv vs) (hg : W.grownBy W3 pv.ownBlock) : Blk W3 g 176 [sv, pv, .func (.func 222) #[] #[], .func (.func 223) #[] #[]] :=
  (hg.block g H.blk.lt (fun e => own_type H.piv H.blk (by decide) e.symm)).trans H.blk
theorem WorkI.push {base n0 W W3 g m p sv pv vs} (H : WorkI base n0 W g m p sv pv vs) (hn : n0 ≤ base) {A : Option Addr} {l c k : Nat} (hown : W3.ownsRow base 3 1 (.slice A l c) (p.length + 1) (i64s (p.map fun (k : Nat) => (k : Int)) ++ [.int .i64 (k : Int)])) (hg : W.grownBy W3 pv.ownBlock) (hb : ∀ b, (Value.slice A l c).ownBlock = some b → pv.ownBlock = some b ∨ W.heap.size ≤ b) : WorkI base n0 (W3.setCell ⟨g, 1, none⟩ (.slice A l c)) g m (p ++ [k]) sv (.slice A l c) vs := by
  have hB3 := H.pushB hg
  have hpg : (Value.slice A l c).ownBlock ≠ some g := fun e => by
    rcases hb g e with h | h
    · exact own_type H.piv H.blk (by decide) h
    · have := H.blk.lt; omega
  have hpl := H.piv.lt
  obtain ⟨Ap, cp, hpv⟩ := own_slice H.piv
  have hcell := hB3.cell 1
  simp only [List.getElem?_cons_zero, List.getElem?_cons_succ] at hcell
  have hvk : vk pv := by rw [hpv]; exact vk_slice _ _ _
  have hp3 : ∀ b cs T fz, pv.ownBlock = some b → W.heap[b]? = some (.cells cs T fz) → T = 3 := by
    intro b cs T fz e h
    rcases H.piv.2 with ⟨e', _⟩ | ⟨g3, cap3, cur3, e', _, hh3, _⟩
    · rw [e'] at e; cases e
    · rw [e'] at e; injection e with e; simp only at e; subst e
      rw [hh3] at h; injection h with h; injection h with _ h _; exact h.symm
  have hrow : ∀ {v : Value} {q : List Rat}, Vq n0 (cqo (okr pv)) W v q → Vq n0 (cqo (okr (.slice A l c))) (W3.setCell ⟨g, 1, none⟩ (.slice A l c)) v q := by
    rintro v q ⟨A', c', e', h'⟩
    have h3 : Rv n0 (cqo (okr (.slice A l c))) W3 A' c' q := by
      refine ⟨h'.cap, h'.lim, fun h0 => ?_⟩
      obtain ⟨b, o, hA, hok, hc⟩ := h'.cells h0
      have hbl : b < W.heap.size := by
        obtain ⟨x, _, hcs⟩ := hc 0 h0
        have := hcs 0 (by omega)
        exact World.block_lt_of_cell? W ⟨b, _, none⟩ this
      have hbne : pv.ownBlock ≠ some b := by
        intro e
        rcases hok with h | ⟨cs, fz, h⟩
        · have := (hpl b e).1; omega
        · exact absurd (hp3 b cs 44 fz e h) (by decide)
      refine ⟨b, o, hA, hok.imp_right (fun ⟨cs, fz, h⟩ => ⟨cs, fz, (hg.block b hbl (fun e => hbne e.symm)).trans h⟩), fun j hj => ?_⟩
      obtain ⟨x, hx, hcs⟩ := hc j hj
      exact ⟨x, isQc.appended hx hg hb, fun i hi => (World.cell?_of_block (w := W) (a := ⟨b, o + j * 4 + i, none⟩) (hg.block b hbl (fun e => hbne e.symm))).trans (hcs i hi)⟩
    refine ⟨A', c', e', h3.setX (cqo_stable _) hcell hvk (fun b hb ht => (tg.ne ht ⟨_, _, hB3⟩ (by decide)).symm) (Nat.le_trans hn H.low)⟩
  have hout : W3.ownsRow base 26 1 sv m.length vs := H.mat.own.kept hg (by
    rcases H.mat.own.2 with ⟨e, _⟩ | ⟨go, cap, cur, e, _, hh, _⟩
    · left; rw [e]; rfl
    · right
      rw [e]
      intro e2
      exact absurd (hp3 go cur 26 _ e2.symm hh) (by decide))
  refine ⟨by have := hB3.set 1 (.slice A l c); simpa using this, ⟨ownsRow_setCell_other hout (fun e => ?_) _, fun i hi => hrow (H.mat.el i hi)⟩, ?_, H.low⟩
  · exact own_type hout hB3 (by decide) e
  · have := ownsRow_setCell_other hown (a := ⟨g, 1, none⟩) (fun e => hpg e) (.slice A l c)
    rw [List.length_append, List.length_singleton, List.map_append]
    unfold i64s at this ⊢
    rw [List.map_append]
    exact this
/-- The world of a region with one store. -/
def Gst (W0 W1 : World) (s : Nat) (D : Nat → Prop) (_ : Nat → Value) (W : World) : Prop := (D s → W = W1) ∧ (¬ D s → W = W0)
theorem Gst.gen {W0 W1 : World} {s J : Nat} {D : Nat → Prop} {u u' : Nat → Value} {W : World} (h : Gst W0 W1 s D u W) (hJ : J ≠ s) : Gst W0 W1 s (fun k => k = J ∨ D k) u' W := by
  refine ⟨fun hd => ?_, fun hd => h.2 (fun h2 => hd (.inr h2))⟩
  rcases hd with e | hd
  · exact absurd e.symm hJ
  · exact h.1 hd
theorem Gst.store {W0 W1 : World} {s : Nat} {D : Nat → Prop} {u : Nat → Value} : Gst W0 W1 s (fun k => k = s ∨ D k) u W1 := ⟨fun _ => rfl, fun h => absurd (.inl rfl) h⟩
set_option maxRecDepth 100000 in
set_option maxHeartbeats 8000000 in
theorem column_c {base n0 C B g k : Nat} {w : World} {m : List (List Rat)} {p : List Nat} {sv pv : Value} {vs : List Value} (H : WorkI base n0 w g m p sv pv vs) (hn0 : n0 ≤ base) (hw : widthL m C) (hk : k < C) (hm0 : 0 < m.length) (hm1 : m.length ≤ 1024) (hC : C ≤ 2048) (hp : p.length ≤ 1024) (hbn : bndL m B) (hB0 : 0 < B) (hB : 5 * B + 10 ≤ 100000000) :
    Calls Tryz.prog 225 #[.pointer (some ⟨g, 0, none⟩), .int .i64 (k : Int)] w fun e w' => (∃ v, e = .returned v) ∧ Below base w w' ∧ w.heap.size ≤ w'.heap.size ∧ ∃ sv' pv' vs', WorkI base n0 w' g (colS m p k).1 (colS m p k).2 sv' pv' vs' := by
  obtain ⟨go, cap, Ap, cp, rfl, rfl, hgo, hne, hgl, hgg, hco⟩ := H.reads hm0
  have HH := Lib.hid H
  have HW := Lib.hid hw
  have HBN := Lib.hid hbn
  have HCO := Lib.hid hco
  clear H hbn hw hco
  go_enter Tryz.func225, Tryz.ntmps225
  have c1 := HH.out.blk.cell 1
  simp only [List.getElem?_cons_zero, List.getElem?_cons_succ] at c1
  go_wp2
  go_step3
  go_wp2
  go_step3
  go_wp2
  clear c1
  go_loopg [6, 7] (m.length - p.length) (fun gh av iv wr => ∃ i : Nat, gh = m.length - i ∧ av = .int .i64 (-1) ∧ iv = .int .i64 (i : Int) ∧ p.length ≤ i ∧ Below w.heap.size w wr ∧ Hid (findI m k p.length (m.length - p.length) = findI m k i (m.length - i)))
  case atStart => exact ⟨p.length, rfl, rfl, rfl, Nat.le_refl _, b0 _, Lib.hid rfl⟩
  case round =>
    obtain ⟨i, rfl, rfl, rfl, hpi, hbl, HF⟩ := hrel
    have hwk := Lib.hid (HH.out.later hbl)
    have d0 := hwk.out.blk.cell 0
    have d1 := hwk.out.blk.cell 1
    simp only [List.getElem?_cons_zero, List.getElem?_cons_succ] at d0 d1
    by_cases hlt : i < m.length
    · obtain ⟨hi2, b, o, c, en, em, ⟨eA, el, ec⟩, ⟨eB, el2, ec2⟩, hvs, hel, hbw, x0, x1, x2, x3⟩ := hwk.out.elem HW.out hlt hk
      simp only at hel x1 x3
      have hrow : wr.cell? ⟨go, i, none⟩ = some (.slice (some ⟨b, o, none⟩) C c) := by rw [← hvs]; exact (hbl.cell (p := ⟨go, i, none⟩) hgl).trans (HCO.out i hi2)
      have hq := HBN.out i k
      obtain ⟨q, hqe⟩ : ∃ q, q = atM m i k := ⟨_, rfl⟩
      rw [← hqe] at hel hq
      have HS := Lib.hid (sign_q (hel.q hq) hB0 (by omega))
      have HQ := Lib.hid hqe
      have hfs : findI m k i (m.length - i) = if q = 0 then findI m k (i + 1) (m.length - (i + 1)) else some i := by
        obtain ⟨n, hn⟩ : ∃ n, m.length - i = n + 1 := ⟨m.length - i - 1, by omega⟩
        rw [hn, show m.length - (i + 1) = n by omega, hqe]; rfl
      have HFS := Lib.hid hfs
      clear hqe hq hel hvs hfs
      by_cases hq0 : q = 0
      · have hs0 : qs q = 0 := qs_zero.2 hq0
        rw [hs0] at HS
        have HQ0 := Lib.hid hq0
        clear hq0 hs0
        go_wp2_with (go_at_call 51; (with_reducible refine Calls.mono HS.out ?_); rintro e w1 ⟨rfl, hb1⟩)
        go_roundg (m.length - (i + 1))
        case rel =>
          refine ⟨i + 1, rfl, rfl, val_int (by omega), by omega, bthen hbl hb1, Lib.hid ?_⟩
          rw [HF.out, HFS.out, if_pos HQ0.out]
        case measure => omega
      · have hs0 : qs q ≠ 0 := fun h => hq0 (qs_zero.1 h)
        have hfd : findI m k p.length (m.length - p.length) = some i := by rw [HF.out, HFS.out, if_neg hq0]
        obtain ⟨z, hz⟩ : ∃ z, z = qs q := ⟨_, rfl⟩
        rw [← hz] at HS hs0
        have hz1 : (z == 0) = false := by simpa using hs0
        have hz2 : (z != 0) = true := by simpa using hs0
        have HFD := Lib.hid hfd
        clear hfd hz hq0 HF HFS
        go_upto_region 9 with (go_at_call 51; (with_reducible refine Calls.mono HS.out ?_); rintro e w1 ⟨rfl, hb1⟩)
        obtain ⟨wf, rfl⟩ : ∃ wf : World, wf = w1 := ⟨_, rfl⟩
        have hbf := Lib.hid (bthen hbl hb1)
        have HWK := Lib.hid (hwk.out.later hb1)
        clear hwk HS d0 d1 x0 x1 x2 x3 hrow hbw hbl hb1 HCO HH
        go_cut [43] from 8 (fun v43 W => v43 = .bool ((i : Int) != (p.length : Int)) ∧ W = wf)
        case first =>
          go_wp2
          go_meet
          case rel => exact ⟨rfl, rfl⟩
        obtain ⟨rfl, rfl⟩ := hcut
        go_upto_if 43 with fail
        go_cut [] from 6 (fun W => ∃ vs', Hid (WorkI base n0 W g (swapR m i p.length) p (.slice (some ⟨go, 0, none⟩) m.length cap) (.slice Ap p.length cp) vs') ∧ Hid (Below base w W) ∧ w.heap.size ≤ W.heap.size)
        case first =>
          have e0 := HWK.out.blk.cell 0
          have e2 := HWK.out.blk.cell 2
          simp only [List.getElem?_cons_zero, List.getElem?_cons_succ] at e0 e2
          by_cases hip : i = p.length
          · subst hip
            go_wp2
            go_meet
            case rel => exact ⟨vs, by unfold swapR; rw [if_pos rfl]; exact HWK, Lib.hid (hbf.out.mono (by have := HWK.out.low; omega)), hbf.out.size⟩
          · have hipz : ((i : Int) == (p.length : Int)) = false := by simp; omega
            have hipz2 : ((i : Int) != (p.length : Int)) = true := by simp; omega
            have hpl : p.length < m.length := by have := (findI_some HFD.out).1; omega
            obtain ⟨hvD, bD, oD, cD, _, _, _, _, hvsD, _, _, _⟩ := HWK.out.elem HW.out hpl hk
            obtain ⟨hvI, bI, oI, cI, _, _, _, _, hvsI, _, _, _⟩ := HWK.out.elem HW.out hlt hk
            obtain ⟨rD, hrD⟩ : ∃ rD, rD = vs[p.length] := ⟨_, rfl⟩
            obtain ⟨rI, hrI⟩ : ∃ rI, rI = vs[i] := ⟨_, rfl⟩
            obtain ⟨go', cap', Ap', cp', es, ep, _, _, hgof, hgf, hcof⟩ := HWK.out.reads hm0
            injection es with es _ es2
            injection es with es
            injection es with es _ _
            subst es es2
            have rd := hcof p.length hvD
            have ri := hcof i hvI
            rw [← hrD] at rd
            have ri0 := Lib.hid ri
            rw [← hrI] at ri
            have rfz := HWK.out.frozenO
            have hsD : ∃ A l c, rD = .slice A l c := ⟨_, _, _, hrD.trans hvsD⟩
            have hsI : ∃ A l c, rI = .slice A l c := ⟨_, _, _, hrI.trans hvsI⟩
            have HRD := Lib.hid hrD
            have HRI := Lib.hid hrI
            clear hrD hrI hcof ep hvsD hvsI
            obtain ⟨AD, lD, cD', rfl⟩ := hsD
            obtain ⟨AI, lI, cI', rfl⟩ := hsI
            go_wp2
            refine (wpIn_wide (n := 10)).1 ?_
            refine wpIn_region_G (by kernel_rfl) (by kernel_rfl) 26 2 rfl (by kernel_rfl) (fun u => { tmps := List.toArray ((.pointer (some ⟨g, 0, none⟩)) :: (.int .i64 (k : Int)) :: undef :: undef :: (.bool false) :: (.int .i64 (p.length : Int)) :: (.int .i64 (i : Int)) :: (.int .i64 (i : Int)) :: u8 :: u9 :: u10 :: u11 :: u12 :: u13 :: u14 :: u15 :: u16 :: u17 :: u18 :: u19 :: u20 :: u21 :: u22 :: u23 :: u24 :: u25 :: u26 :: u27 :: u28 :: u29 :: u30 :: u31 :: u32 :: u33 :: u34 :: u35 :: u36 :: u37 :: u38 :: u39 :: u40 :: u41 :: u42 :: (.bool true) :: (u 0) :: (u 1) :: (u 2) :: (u 3) :: (u 4) :: (u 5) :: (u 6) :: (u 7) :: (u 8) :: (u 9) :: (u 10) :: (u 11) :: (u 12) :: (u 13) :: (u 14) :: (u 15) :: (u 16) :: (u 17) :: (u 18) :: (u 19) :: (u 20) :: (u 21) :: (u 22) :: (u 23) :: (u 24) :: (u 26) :: u70 :: u71 :: u72 :: u73 :: u74 :: u75 :: u76 :: u77 :: u78 :: u79 :: u80 :: u81 :: u82 :: u83 :: u84 :: u85 :: u86 :: u87 :: u88 :: u89 :: u90 :: u91 :: u92 :: u93 :: u94 :: u95 :: u96 :: u97 :: u98 :: u99 :: u100 :: u101 :: u102 :: u103 :: u104 :: u105 :: u106 :: u107 :: u108 :: u109 :: u110 :: u111 :: u112 :: u113 :: u114 :: u115 :: u116 :: u117 :: u118 :: u119 :: u120 :: u121 :: u122 :: u123 :: u124 :: u125 :: u126 :: u127 :: u128 :: u129 :: u130 :: u131 :: u132 :: u133 :: u134 :: u135 :: u136 :: u137 :: u138 :: u139 :: u140 :: u141 :: u142 :: u143 :: u144 :: u145 :: u146 :: u147 :: u148 :: u149 :: u150 :: u151 :: u152 :: u153 :: u154 :: u155 :: u156 :: u157 :: u158 :: u159 :: u160 :: u161 :: u162 :: u163 :: u164 :: u165 :: u166 :: u167 :: []), defers := [] }) (fun k => #[u44, u45, u46, u47, u48, u49, u50, u51, u52, u53, u54, u55, u56, u57, u58, u59, u60, u61, u62, u63, u64, u65, u66, u67, u68, undef, u69].getD k undef) rfl (fun _ _ => True) (fun _ => trivial) (fun _ _ => trivial)
              (fun j9 v W1 => match j9 with
                | 0 => v = .pointer (some ⟨g, 0, none⟩)
                | 1 => v = .pointer (some ⟨g, 0, none⟩)
                | 2 => v = .pointer (some ⟨g, 0, none⟩)
                | 3 => v = .slice (some ⟨go, 0, none⟩) m.length cap
                | 4 => v = .int .i64 (i : Int)
                | 5 => v = .pointer (some ⟨g, 0, none⟩)
                | 6 => v = .pointer (some ⟨g, 0, none⟩)
                | 7 => v = .pointer (some ⟨g, 0, none⟩)
                | 8 => v = .slice (some ⟨go, 0, none⟩) m.length cap
                | 9 => v = .int .i64 (p.length : Int)
                | 10 => v = .pointer (some ⟨g, 0, none⟩)
                | 11 => v = .pointer (some ⟨g, 0, none⟩)
                | 12 => v = .pointer (some ⟨g, 0, none⟩)
                | 13 => v = .slice (some ⟨go, 0, none⟩) m.length cap
                | 14 => v = .int .i64 (p.length : Int)
                | 15 => v = .pointer (some ⟨go, p.length, none⟩)
                | 16 => v = (.slice AD lD cD')
                | 17 => v = .pointer (some ⟨g, 0, none⟩)
                | 18 => v = .pointer (some ⟨g, 0, none⟩)
                | 19 => v = .pointer (some ⟨g, 0, none⟩)
                | 20 => v = .slice (some ⟨go, 0, none⟩) m.length cap
                | 21 => v = .int .i64 (i : Int)
                | 22 => v = .pointer (some ⟨go, i, none⟩)
                | 23 => v = (.slice AI lI cI')
                | 24 => v = .pointer (some ⟨go, i, none⟩)
                | _ => True) (fun k v W1 W2 h _ => h) (Gst wc.drew (wc.drew.setCell ⟨go, i, none⟩ (.slice AD lD cD')) 25) ⟨fun h => h.elim, fun _ => rfl⟩ ?step ?fin
            case step =>
              intro D u W' j o hj ho hnD hcl hpre _ hG
              obtain rfl | rfl | rfl | rfl | rfl | rfl | rfl | rfl | rfl | rfl | rfl | rfl | rfl | rfl | rfl | rfl | rfl | rfl | rfl | rfl | rfl | rfl | rfl | rfl | rfl | rfl : j = 0 ∨ j = 1 ∨ j = 2 ∨ j = 3 ∨ j = 4 ∨ j = 5 ∨ j = 6 ∨ j = 7 ∨ j = 8 ∨ j = 9 ∨ j = 10 ∨ j = 11 ∨ j = 12 ∨ j = 13 ∨ j = 14 ∨ j = 15 ∨ j = 16 ∨ j = 17 ∨ j = 18 ∨ j = 19 ∨ j = 20 ∨ j = 21 ∨ j = 22 ∨ j = 23 ∨ j = 24 ∨ j = 25 := by omega
              · simp at ho
                subst ho
                simp [Region.binds] at hpre
                refine wpOpIn_step rfl (fun K' hK => ?_)
                simp only [Region.wanted]
                have HK := Lib.hid hK
                clear hK
                gi_wp2
                exact HK.out _ _ ⟨.pointer (some ⟨g, 0, none⟩), by simp [upd, undef, *], trivial, rfl, hG.gen (by omega)⟩
              · simp at ho
                subst ho
                simp [Region.binds] at hpre
                refine wpOpIn_step rfl (fun K' hK => ?_)
                simp only [Region.wanted]
                have HK := Lib.hid hK
                clear hK
                gi_wp2
                exact HK.out _ _ ⟨.pointer (some ⟨g, 0, none⟩), by simp [upd, undef, *], trivial, rfl, hG.gen (by omega)⟩
              · simp at ho
                subst ho
                simp [Region.binds] at hpre
                refine wpOpIn_step rfl (fun K' hK => ?_)
                simp only [Region.wanted]
                have HK := Lib.hid hK
                clear hK
                gi_wp2
                exact HK.out _ _ ⟨.pointer (some ⟨g, 0, none⟩), by simp [upd, undef, *], trivial, rfl, hG.gen (by omega)⟩
              · simp at ho
                subst ho
                simp [Region.binds] at hpre
                have hn : ¬ D 25 := fun h => hnD (hcl 25 _ rfl h ⟨3, .phase⟩ (by simp) rfl)
                have hWe := hG.2 hn
                subst hWe
                have e0' : wc.drew.cell? ⟨g, 0, none⟩ = some (.slice (some ⟨go, 0, none⟩) m.length cap) := e0
                refine wpOpIn_step rfl (fun K' hK => ?_)
                simp only [Region.wanted]
                have HK := Lib.hid hK
                clear hK
                gi_wp2
                exact HK.out _ _ ⟨.slice (some ⟨go, 0, none⟩) m.length cap, by simp [upd, undef, *], trivial, rfl, hG.gen (by omega)⟩
              · simp at ho
                subst ho
                simp [Region.binds] at hpre
                refine wpOpIn_step rfl (fun K' hK => ?_)
                simp only [Region.wanted]
                have HK := Lib.hid hK
                clear hK
                gi_wp2
                exact HK.out _ _ ⟨.int .i64 (i : Int), by simp [upd, undef, *], trivial, rfl, hG.gen (by omega)⟩
              · simp at ho
                subst ho
                simp [Region.binds] at hpre
                refine wpOpIn_step rfl (fun K' hK => ?_)
                simp only [Region.wanted]
                have HK := Lib.hid hK
                clear hK
                gi_wp2
                exact HK.out _ _ ⟨.pointer (some ⟨g, 0, none⟩), by simp [upd, undef, *], trivial, rfl, hG.gen (by omega)⟩
              · simp at ho
                subst ho
                simp [Region.binds] at hpre
                refine wpOpIn_step rfl (fun K' hK => ?_)
                simp only [Region.wanted]
                have HK := Lib.hid hK
                clear hK
                gi_wp2
                exact HK.out _ _ ⟨.pointer (some ⟨g, 0, none⟩), by simp [upd, undef, *], trivial, rfl, hG.gen (by omega)⟩
              · simp at ho
                subst ho
                simp [Region.binds] at hpre
                refine wpOpIn_step rfl (fun K' hK => ?_)
                simp only [Region.wanted]
                have HK := Lib.hid hK
                clear hK
                gi_wp2
                exact HK.out _ _ ⟨.pointer (some ⟨g, 0, none⟩), by simp [upd, undef, *], trivial, rfl, hG.gen (by omega)⟩
              · simp at ho
                subst ho
                simp [Region.binds] at hpre
                have hn : ¬ D 25 := fun h => hnD (hcl 25 _ rfl h ⟨8, .phase⟩ (by simp) rfl)
                have hWe := hG.2 hn
                subst hWe
                have e0' : wc.drew.cell? ⟨g, 0, none⟩ = some (.slice (some ⟨go, 0, none⟩) m.length cap) := e0
                refine wpOpIn_step rfl (fun K' hK => ?_)
                simp only [Region.wanted]
                have HK := Lib.hid hK
                clear hK
                gi_wp2
                exact HK.out _ _ ⟨.slice (some ⟨go, 0, none⟩) m.length cap, by simp [upd, undef, *], trivial, rfl, hG.gen (by omega)⟩
              · simp at ho
                subst ho
                simp [Region.binds] at hpre
                refine wpOpIn_step rfl (fun K' hK => ?_)
                simp only [Region.wanted]
                have HK := Lib.hid hK
                clear hK
                gi_wp2
                exact HK.out _ _ ⟨.int .i64 (p.length : Int), by simp [upd, undef, *], trivial, rfl, hG.gen (by omega)⟩
              · simp at ho
                subst ho
                simp [Region.binds] at hpre
                refine wpOpIn_step rfl (fun K' hK => ?_)
                simp only [Region.wanted]
                have HK := Lib.hid hK
                clear hK
                gi_wp2
                exact HK.out _ _ ⟨.pointer (some ⟨g, 0, none⟩), by simp [upd, undef, *], trivial, rfl, hG.gen (by omega)⟩
              · simp at ho
                subst ho
                simp [Region.binds] at hpre
                refine wpOpIn_step rfl (fun K' hK => ?_)
                simp only [Region.wanted]
                have HK := Lib.hid hK
                clear hK
                gi_wp2
                exact HK.out _ _ ⟨.pointer (some ⟨g, 0, none⟩), by simp [upd, undef, *], trivial, rfl, hG.gen (by omega)⟩
              · simp at ho
                subst ho
                simp [Region.binds] at hpre
                refine wpOpIn_step rfl (fun K' hK => ?_)
                simp only [Region.wanted]
                have HK := Lib.hid hK
                clear hK
                gi_wp2
                exact HK.out _ _ ⟨.pointer (some ⟨g, 0, none⟩), by simp [upd, undef, *], trivial, rfl, hG.gen (by omega)⟩
              · simp at ho
                subst ho
                simp [Region.binds] at hpre
                have hn : ¬ D 25 := fun h => hnD (hcl 25 _ rfl h ⟨13, .phase⟩ (by simp) rfl)
                have hWe := hG.2 hn
                subst hWe
                have e0' : wc.drew.cell? ⟨g, 0, none⟩ = some (.slice (some ⟨go, 0, none⟩) m.length cap) := e0
                refine wpOpIn_step rfl (fun K' hK => ?_)
                simp only [Region.wanted]
                have HK := Lib.hid hK
                clear hK
                gi_wp2
                exact HK.out _ _ ⟨.slice (some ⟨go, 0, none⟩) m.length cap, by simp [upd, undef, *], trivial, rfl, hG.gen (by omega)⟩
              · simp at ho
                subst ho
                simp [Region.binds] at hpre
                refine wpOpIn_step rfl (fun K' hK => ?_)
                simp only [Region.wanted]
                have HK := Lib.hid hK
                clear hK
                gi_wp2
                exact HK.out _ _ ⟨.int .i64 (p.length : Int), by simp [upd, undef, *], trivial, rfl, hG.gen (by omega)⟩
              · simp at ho
                subst ho
                simp [Region.binds] at hpre
                refine wpOpIn_step rfl (fun K' hK => ?_)
                simp only [Region.wanted]
                have HK := Lib.hid hK
                clear hK
                gi_wp2
                exact HK.out _ _ ⟨.pointer (some ⟨go, p.length, none⟩), by simp [upd, undef, *], trivial, rfl, hG.gen (by omega)⟩
              · simp at ho
                subst ho
                simp [Region.binds] at hpre
                have hn : ¬ D 25 := fun h => hnD (hcl 25 _ rfl h ⟨16, .phase⟩ (by simp) rfl)
                have hWe := hG.2 hn
                subst hWe
                have rd' : wc.drew.cell? ⟨go, p.length, none⟩ = some (.slice AD lD cD') := rd
                refine wpOpIn_step rfl (fun K' hK => ?_)
                simp only [Region.wanted]
                have HK := Lib.hid hK
                clear hK
                gi_wp2
                exact HK.out _ _ ⟨(.slice AD lD cD'), by simp [upd, undef, *], trivial, rfl, hG.gen (by omega)⟩
              · simp at ho
                subst ho
                simp [Region.binds] at hpre
                refine wpOpIn_step rfl (fun K' hK => ?_)
                simp only [Region.wanted]
                have HK := Lib.hid hK
                clear hK
                gi_wp2
                exact HK.out _ _ ⟨.pointer (some ⟨g, 0, none⟩), by simp [upd, undef, *], trivial, rfl, hG.gen (by omega)⟩
              · simp at ho
                subst ho
                simp [Region.binds] at hpre
                refine wpOpIn_step rfl (fun K' hK => ?_)
                simp only [Region.wanted]
                have HK := Lib.hid hK
                clear hK
                gi_wp2
                exact HK.out _ _ ⟨.pointer (some ⟨g, 0, none⟩), by simp [upd, undef, *], trivial, rfl, hG.gen (by omega)⟩
              · simp at ho
                subst ho
                simp [Region.binds] at hpre
                refine wpOpIn_step rfl (fun K' hK => ?_)
                simp only [Region.wanted]
                have HK := Lib.hid hK
                clear hK
                gi_wp2
                exact HK.out _ _ ⟨.pointer (some ⟨g, 0, none⟩), by simp [upd, undef, *], trivial, rfl, hG.gen (by omega)⟩
              · simp at ho
                subst ho
                simp [Region.binds] at hpre
                have hn : ¬ D 25 := fun h => hnD (hcl 25 _ rfl h ⟨20, .phase⟩ (by simp) rfl)
                have hWe := hG.2 hn
                subst hWe
                have e0' : wc.drew.cell? ⟨g, 0, none⟩ = some (.slice (some ⟨go, 0, none⟩) m.length cap) := e0
                refine wpOpIn_step rfl (fun K' hK => ?_)
                simp only [Region.wanted]
                have HK := Lib.hid hK
                clear hK
                gi_wp2
                exact HK.out _ _ ⟨.slice (some ⟨go, 0, none⟩) m.length cap, by simp [upd, undef, *], trivial, rfl, hG.gen (by omega)⟩
              · simp at ho
                subst ho
                simp [Region.binds] at hpre
                refine wpOpIn_step rfl (fun K' hK => ?_)
                simp only [Region.wanted]
                have HK := Lib.hid hK
                clear hK
                gi_wp2
                exact HK.out _ _ ⟨.int .i64 (i : Int), by simp [upd, undef, *], trivial, rfl, hG.gen (by omega)⟩
              · simp at ho
                subst ho
                simp [Region.binds] at hpre
                refine wpOpIn_step rfl (fun K' hK => ?_)
                simp only [Region.wanted]
                have HK := Lib.hid hK
                clear hK
                gi_wp2
                exact HK.out _ _ ⟨.pointer (some ⟨go, i, none⟩), by simp [upd, undef, *], trivial, rfl, hG.gen (by omega)⟩
              · simp at ho
                subst ho
                simp [Region.binds] at hpre
                have hn : ¬ D 25 := fun h => hnD (hcl 25 _ rfl h ⟨23, .phase⟩ (by simp) rfl)
                have hWe := hG.2 hn
                subst hWe
                have ri' : wc.drew.cell? ⟨go, i, none⟩ = some (.slice AI lI cI') := ri
                refine wpOpIn_step rfl (fun K' hK => ?_)
                simp only [Region.wanted]
                have HK := Lib.hid hK
                clear hK
                gi_wp2
                exact HK.out _ _ ⟨(.slice AI lI cI'), by simp [upd, undef, *], trivial, rfl, hG.gen (by omega)⟩
              · simp at ho
                subst ho
                simp [Region.binds] at hpre
                refine wpOpIn_step rfl (fun K' hK => ?_)
                simp only [Region.wanted]
                have HK := Lib.hid hK
                clear hK
                gi_wp2
                exact HK.out _ _ ⟨.pointer (some ⟨go, i, none⟩), by simp [upd, undef, *], trivial, rfl, hG.gen (by omega)⟩
              · simp at ho
                subst ho
                simp [Region.binds] at hpre
                have hn : ¬ D 25 := hnD
                have hWe := hG.2 hn
                subst hWe
                have ri' : wc.drew.cell? ⟨go, i, none⟩ = some (.slice AI lI cI') := ri
                have rf' : wc.drew.frozen? ⟨go, i, none⟩ = false := rfz i
                have hgo2 : go < wc.drew.heap.size := hgof
                refine wpOpIn_step rfl (fun K' hK => ?_)
                simp only [Region.wanted]
                have HK := Lib.hid hK
                clear hK
                gi_wp2
                exact HK.out _ _ ⟨undef, by simp [upd, undef, *], trivial, trivial, Gst.store⟩
            case fin =>
              intro u W' _ hY hG
              have g8 : u 8 = .slice (some ⟨go, 0, none⟩) m.length cap := hY 8 (by omega)
              have g9 : u 9 = .int .i64 (p.length : Int) := hY 9 (by omega)
              have g23 : u 23 = .slice AI lI cI' := hY 23 (by omega)
              have hWe := hG.1 (show 25 < 26 by omega)
              have HWD := HWK.out.later (bdr (b0 wc))
              have hW1 := HWD.setRow (i := i) hn0 hvI (by have := HWD.mat.el p.length hvD; rwa [← HRD.out] at this) (fun e => hne e)
              have hk1 : Vq n0 (cqo (okr (.slice Ap p.length cp))) (wc.drew.setCell ⟨go, i, none⟩ (.slice AD lD cD')) (.slice AI lI cI') (m.getD i []) := by
                have h3 := HWD.mat.el i hvI
                rw [← HRI.out] at h3
                exact HWD.mat.keep hn0 hvI (cqo_stable _) h3
              rw [← hWe] at hW1 hk1
              have hb1 : Below base w W' := by rw [hWe]; exact ((hbf.out.mono (by have := HWK.out.low; omega)).drew).setCell hgo _
              have hs1 : W'.heap.size = wc.heap.size := by rw [hWe]; simp [World.setCell]
              have hW2 := hW1.setRow (i := p.length) hn0 (by rw [List.length_set]; exact hvD) hk1 (fun e => hne e)
              have hcell := (hW1.reads (by rw [List.length_set]; exact hm0))
              obtain ⟨_, _, _, _, es1, ep1, _, _, hl1, hl2, hco1⟩ := hcell
              clear ep1
              injection es1 with es1 el1 ec1
              clear el1 ec1
              injection es1 with es1
              injection es1 with es1 ex1 ex2
              clear ex1 ex2
              subst es1
              have z0 := hco1 p.length (by rw [List.length_set]; exact hvD)
              have zf := hW1.frozenO
              have z2 := hW1.blk.cell 2
              simp only [List.getElem?_cons_zero, List.getElem?_cons_succ] at z2
              have HWE := Lib.hid hWe
              have HW2 := Lib.hid hW2
              have HB1 := Lib.hid hb1
              have hgne : g ≠ go := fun e => hne e.symm
              obtain ⟨vz, hvz⟩ : ∃ vz, vz = (vs.set i (Value.slice AD lD cD'))[p.length]'(by rw [List.length_set]; exact hvD) := ⟨_, rfl⟩
              rw [← hvz] at z0
              clear hY hG hWe hW1 hW2 hb1 hk1 HWD hco1 rd ri rfz e0 e2 hvz ri0
              refine wpTail_step (i' := 27) (c := 1) rfl ?_
              rw [g8, g9, g23]
              refine wpOpIn_step rfl (fun K' hK => ?_)
              simp only [Region.wanted, List.getElem_toArray, List.getElem_cons_succ, List.getElem_cons_zero]
              have HK := Lib.hid hK
              clear hK
              gi_wp2
              refine HK.out _ _ ?_
              clear HK
              refine wpTail_step (i' := 28) (c := 0) rfl ?_
              refine wpOpIn_step rfl (fun K' hK => ?_)
              simp only [Region.wanted, List.getElem_toArray, List.getElem_cons_succ, List.getElem_cons_zero]
              have HK := Lib.hid hK
              clear hK
              gi_wp2
              refine HK.out _ _ (wpTail_end ?_)
              clear HK
              go_wp2_with (go_at_call 222; (with_reducible refine Calls.mono (f222_c _) ?_); rintro e w9 ⟨⟨v9, rfl⟩, rfl⟩)
              go_meet
              case rel =>
                refine ⟨_, Lib.hid (by unfold swapR; rw [if_neg hip]; exact HW2.out), Lib.hid (HB1.out.setCell hgo _), ?_⟩
                have := hbf.out.size; simp [World.setCell]; omega
        case rest =>
          obtain ⟨vs2, HM, HBL, hsz⟩ := hcut
          have hpl : p.length < m.length := by have := (findI_some HFD.out).1; omega
          obtain ⟨M1, hM1⟩ : ∃ M1, M1 = swapR m i p.length := ⟨_, rfl⟩
          rw [← hM1] at HM
          have hw1 : widthL M1 C := by rw [hM1]; exact swapR_width HW.out hlt hpl
          have hl1 : M1.length = m.length := by rw [hM1, swapR_length]
          have hbn1 : bndL M1 B := by rw [hM1]; exact swapR_bnd HBN.out
          have hat : atM M1 p.length k = atM m i k := by
            rw [hM1]; unfold swapR
            split
            · rename_i h; rw [h]
            · unfold atM; rw [getD_setL, if_pos ⟨rfl, by rw [List.length_set]; exact hpl⟩]
          have hdne : atM M1 p.length k ≠ 0 := by rw [hat]; exact (findI_some HFD.out).2.2
          obtain ⟨hvD, bD, oD, cD, dn, dm, ⟨dA, dl, dc⟩, ⟨dB, dl2, dc2⟩, hvsD, hd, hbD, y0, y1, y2, y3⟩ := HM.out.elem hw1 (by rw [hl1]; exact hpl) hk
          obtain ⟨go', cap', Ap', cp', es, ep, _, _, hgof, hgf, hcof⟩ := HM.out.reads (by rw [hl1]; exact hm0)
          injection es with es es3 es2
          clear es3 ep
          injection es with es
          injection es with es _ _
          subst es es2
          have rd := hcof p.length hvD
          rw [hvsD] at rd
          simp only at y1 y3 hd
          obtain ⟨dq, hdq⟩ : ∃ dq, dq = atM M1 p.length k := ⟨_, rfl⟩
          rw [← hdq] at hd hdne
          have HVD := Lib.hid (by have := HM.out.mat.el p.length hvD; rwa [hvsD] at this : Vq n0 (cqo (okr (.slice Ap p.length cp))) wc (.slice (some ⟨bD, oD, none⟩) C cD) (M1.getD p.length []))
          have HDB := Lib.hid (show qB dq B by rw [hdq]; exact hbn1 _ _)
          have HD0 := Lib.hid hdne
          have HRB := Lib.hid (show ∀ q ∈ M1.getD p.length [], qB q B from fun q hq => hbn1.rows _ (by rw [List.getD_eq_getElem?_getD, List.getElem?_eq_getElem (by rw [hl1]; exact hpl)]; exact List.getElem_mem _) q hq)
          have HLD := Lib.hid (hw1 p.length (by rw [hl1]; exact hpl))
          have HM1 := Lib.hid hM1
          have Hl1 := Lib.hid hl1
          have Hw1 := Lib.hid hw1
          have Hbn1 := Lib.hid hbn1
          have HDQ := Lib.hid hdq
          have HD := Lib.hid (show cq wc (.agg #[.bool dn, .slice dA dl dc, .bool dm, .slice dB dl2 dc2]) dq from hd)
          have g0 := HM.out.blk.cell 0
          simp only [List.getElem?_cons_zero, List.getElem?_cons_succ] at g0
          have HRD := Lib.hid rd
          have hcof' : ∀ (W' : World), WorkI base n0 W' g M1 p (.slice (some ⟨go, 0, none⟩) m.length cap) (.slice Ap p.length cp) vs2 → W'.cell? ⟨go, p.length, none⟩ = some vs2[p.length] := fun W' H => by
            obtain ⟨_, _, _, _, e1, _, _, _, _, _, h9⟩ := H.reads (by rw [hl1]; exact hm0)
            injection e1 with e1 _ _; injection e1 with e1; injection e1 with e1 _ _; subst e1
            exact h9 p.length hvD
          have Hcof := Lib.hid hcof'
          clear hcof' hcof hM1 hw1 hl1 hbn1 hat hdne hdq hd hvsD
          obtain ⟨wk, rfl⟩ : ∃ wk : World, wk = wc := ⟨_, rfl⟩
          obtain ⟨wb, hwb⟩ : ∃ wb, wb = wk.heap.size := ⟨_, rfl⟩
          have HWB := Lib.hid hwb
          go_upto_region 12 with fail
          go_cut [8] from 9 (fun v8 W => v8 = .pointer (some ⟨wb, 0, none⟩) ∧ W = wk.alloc (.cells #[.bool dn, .slice dA dl dc, .bool dm, .slice dB dl2 dc2] 44))
          case first =>
            go_wp2
            go_meet
            case rel => exact ⟨by rw [HWB.out], rfl⟩
          obtain ⟨rfl, hwc⟩ := hcut
          have HBX := Lib.hid (show Blk wc wb 44 [.bool dn, .slice dA dl dc, .bool dm, .slice dB dl2 dc2] by rw [hwc, hwb]; exact Blk.new wk [.bool dn, .slice dA dl dc, .bool dm, .slice dB dl2 dc2] 44 rfl)
          have hbk : Below wk.heap.size wk wc := by rw [hwc]; exact bal (b0 wk)
          replace HM := Lib.hid (HM.out.later hbk)
          replace HVD := Lib.hid (HVD.out.below (cqo_stable _) hbk)
          replace HD := Lib.hid (cq_stable.below HD.out hbk)
          replace HRD := Lib.hid ((hbk.cell (p := ⟨go, p.length, none⟩) hgof).trans HRD.out)
          replace HBL := Lib.hid (HBL.out.trans (hbk.mono (by have := HBL.out.size; have := HM.out.low; omega)))
          have hgof : go < wc.heap.size := Nat.lt_of_lt_of_le hgof hbk.size
          have hsz : w.heap.size ≤ wc.heap.size := Nat.le_trans hsz hbk.size
          clear hwb HWB g0 y0 y1 y2 y3 hbD rd hwc hbk hgf
          obtain ⟨wj, rfl⟩ : ∃ wj : World, wj = wc := ⟨_, rfl⟩
          go_upto_region 13 with fail
          go_cut [] from 9 (fun W => Hid (Below wj.heap.size wj W))
          case first =>
            refine (wpIn_wide (n := 10)).1 ?_
            refine wpIn_region_Y (by kernel_rfl) (by kernel_rfl) 6 0 rfl (by kernel_rfl) (fun u => { tmps := List.toArray ((.pointer (some ⟨g, 0, none⟩)) :: (.int .i64 (k : Int)) :: undef :: undef :: (.bool false) :: (.int .i64 (p.length : Int)) :: u6 :: u7 :: (.pointer (some ⟨wb, 0, none⟩)) :: u9 :: u10 :: u11 :: u12 :: u13 :: u14 :: u15 :: u16 :: u17 :: u18 :: u19 :: u20 :: u21 :: u22 :: u23 :: u24 :: u25 :: u26 :: u27 :: u28 :: u29 :: u30 :: u31 :: u32 :: u33 :: u34 :: u35 :: u36 :: u37 :: u38 :: u39 :: u40 :: u41 :: u42 :: u43 :: u44 :: u45 :: u46 :: u47 :: u48 :: u49 :: u50 :: u51 :: u52 :: u53 :: u54 :: u55 :: u56 :: u57 :: u58 :: u59 :: u60 :: u61 :: u62 :: u63 :: u64 :: u65 :: u66 :: u67 :: u68 :: u69 :: u70 :: u71 :: u72 :: u73 :: u74 :: u75 :: u76 :: u77 :: u78 :: u79 :: u80 :: u81 :: u82 :: u83 :: u84 :: (u 0) :: (u 1) :: (u 2) :: (u 3) :: (u 4) :: (u 5) :: u91 :: u92 :: u93 :: u94 :: u95 :: u96 :: u97 :: u98 :: u99 :: u100 :: u101 :: u102 :: u103 :: u104 :: u105 :: u106 :: u107 :: u108 :: u109 :: u110 :: u111 :: u112 :: u113 :: u114 :: u115 :: u116 :: u117 :: u118 :: u119 :: u120 :: u121 :: u122 :: u123 :: u124 :: u125 :: u126 :: u127 :: u128 :: u129 :: u130 :: u131 :: u132 :: u133 :: u134 :: u135 :: u136 :: u137 :: u138 :: u139 :: u140 :: u141 :: u142 :: u143 :: u144 :: u145 :: u146 :: u147 :: u148 :: u149 :: u150 :: u151 :: u152 :: u153 :: u154 :: u155 :: u156 :: u157 :: u158 :: u159 :: u160 :: u161 :: u162 :: u163 :: u164 :: u165 :: u166 :: u167 :: []), defers := [] }) (fun k => #[u85, u86, u87, u88, u89, u90].getD k undef) rfl (fun W1 W2 => Below W1.heap.size W1 W2) (fun _ => Below.refl _ _) (fun h1 h2 => bthen h1 h2)
              (fun j9 v W1 => match j9 with
                | 0 => v = .pointer (some ⟨g, 0, none⟩)
                | 1 => v = .pointer (some ⟨g, 0, none⟩)
                | 2 => v = .pointer (some ⟨g, 3, none⟩)
                | 3 => v = .func (.func 223) #[] #[]
                | 4 => v = .agg #[.bool dn, .slice dA dl dc, .bool dm, .slice dB dl2 dc2]
                | _ => True) ?hY ?step ?fin
            case hY =>
              intro k v W1 W2 h hb
              match k, h with
              | 0, h => exact h
              | 1, h => exact h
              | 2, h => exact h
              | 3, h => exact h
              | 4, h => exact h
              | k + 5, h => trivial
            case step =>
              intro u W' j o hj ho hR hpre
              have hbw : Below wj.heap.size wj W' := bthen (bdr (b0 wj)) hR
              have hwk := HM.out.later hbw
              have f0 := hwk.blk.cell 0
              have f3 := hwk.blk.cell 3
              simp only [List.getElem?_cons_zero, List.getElem?_cons_succ] at f0 f3
              obtain ⟨z0, z1, z2, z3⟩ := four1 (n3 := .bool dn) (s3 := .slice dA dl dc) (m3 := .bool dm) (t3 := .slice dB dl2 dc2) (HBX.out.below hbw)
              obtain rfl | rfl | rfl | rfl | rfl | rfl : j = 0 ∨ j = 1 ∨ j = 2 ∨ j = 3 ∨ j = 4 ∨ j = 5 := by omega
              · simp at ho
                subst ho
                simp [Region.binds] at hpre
                refine wpOpIn_step rfl (fun K' hK => ?_)
                simp only [Region.wanted]
                have HK := Lib.hid hK
                clear hK
                gi_wp2
                exact HK.out _ _ ⟨.pointer (some ⟨g, 0, none⟩), by simp [upd, undef, *], Below.refl _ _, rfl⟩
              · simp at ho
                subst ho
                simp [Region.binds] at hpre
                refine wpOpIn_step rfl (fun K' hK => ?_)
                simp only [Region.wanted]
                have HK := Lib.hid hK
                clear hK
                gi_wp2
                exact HK.out _ _ ⟨.pointer (some ⟨g, 0, none⟩), by simp [upd, undef, *], Below.refl _ _, rfl⟩
              · simp at ho
                subst ho
                simp [Region.binds] at hpre
                refine wpOpIn_step rfl (fun K' hK => ?_)
                simp only [Region.wanted]
                have HK := Lib.hid hK
                clear hK
                gi_wp2
                exact HK.out _ _ ⟨.pointer (some ⟨g, 3, none⟩), by simp [upd, undef, *], Below.refl _ _, rfl⟩
              · simp at ho
                subst ho
                simp [Region.binds] at hpre
                refine wpOpIn_step rfl (fun K' hK => ?_)
                simp only [Region.wanted]
                have HK := Lib.hid hK
                clear hK
                gi_wp2
                exact HK.out _ _ ⟨.func (.func 223) #[] #[], by simp [upd, undef, *], Below.refl _ _, rfl⟩
              · simp at ho
                subst ho
                simp [Region.binds] at hpre
                refine wpOpIn_step rfl (fun K' hK => ?_)
                simp only [Region.wanted]
                have HK := Lib.hid hK
                clear hK
                gi_wp2
                exact HK.out _ _ ⟨.agg #[.bool dn, .slice dA dl dc, .bool dm, .slice dB dl2 dc2], by simp [upd, undef, *], Below.refl _ _, rfl⟩
              · simp at ho
                subst ho
                simp [Region.binds] at hpre
                obtain ⟨h3', h4'⟩ := hpre
                refine wpOpIn_step rfl (fun K' hK => ?_)
                simp only [Region.wanted]
                have HK := Lib.hid hK
                clear hK
                gi_wp2_with (gi_at_call 223; (with_reducible refine CallsIn.mono (callsIn_wide.2 f223_c) ?_); rintro e w1 ⟨⟨v9, rfl⟩, hb1⟩)
                refine HK.out _ _ ⟨v9, by simp [upd, undef, Qx.v, Qx.zero, *], hb1, trivial⟩
            case fin =>
              intro u W' hR hY
              have hbw : Below wj.heap.size wj W' := bthen (bdr (b0 wj)) hR
              refine wpTail_end ?_
              go_wp2
              go_meet
              case rel => exact Lib.hid hbw
          replace HBX := Lib.hid (HBX.out.below hcut.out)
          replace HM := Lib.hid (HM.out.later hcut.out)
          replace HVD := Lib.hid (HVD.out.below (cqo_stable _) hcut.out)
          replace HD := Lib.hid (cq_stable.below HD.out hcut.out)
          replace HRD := Lib.hid ((hcut.out.cell (p := ⟨go, p.length, none⟩) hgof).trans HRD.out)
          replace HBL := Lib.hid (HBL.out.trans (hcut.out.mono (by have := HBL.out.size; have := HM.out.low; omega)))
          have hgof : go < wc.heap.size := Nat.lt_of_lt_of_le hgof hcut.out.size
          have hsz : w.heap.size ≤ wc.heap.size := Nat.le_trans hsz hcut.out.size
          clear hcut
          go_upto_region 14 with fail
          go_cut [] from 9 (fun W => ∃ vs', Hid (WorkI base n0 W g (scaleR M1 p.length k) p (.slice (some ⟨go, 0, none⟩) m.length cap) (.slice Ap p.length cp) vs') ∧ Hid (Below base w W) ∧ w.heap.size ≤ W.heap.size)
          case first =>
            refine (wpIn_wide (n := 10)).1 ?_
            refine wpIn_region_Y (by kernel_rfl) (by kernel_rfl) 16 2 rfl (by kernel_rfl) (fun u => { tmps := List.toArray ((.pointer (some ⟨g, 0, none⟩)) :: (.int .i64 (k : Int)) :: undef :: undef :: (.bool false) :: (.int .i64 (p.length : Int)) :: u6 :: u7 :: (.pointer (some ⟨wb, 0, none⟩)) :: u9 :: u10 :: u11 :: u12 :: u13 :: u14 :: u15 :: u16 :: u17 :: u18 :: u19 :: u20 :: u21 :: u22 :: u23 :: u24 :: u25 :: u26 :: u27 :: u28 :: u29 :: u30 :: u31 :: u32 :: u33 :: u34 :: u35 :: u36 :: u37 :: u38 :: u39 :: u40 :: u41 :: u42 :: u43 :: u44 :: u45 :: u46 :: u47 :: u48 :: u49 :: u50 :: u51 :: u52 :: u53 :: u54 :: u55 :: u56 :: u57 :: u58 :: u59 :: u60 :: u61 :: u62 :: u63 :: u64 :: u65 :: u66 :: u67 :: u68 :: u69 :: u70 :: u71 :: u72 :: u73 :: u74 :: u75 :: u76 :: u77 :: u78 :: u79 :: u80 :: u81 :: u82 :: u83 :: u84 :: u85 :: u86 :: u87 :: u88 :: u89 :: u90 :: (u 0) :: (u 1) :: (u 2) :: (u 3) :: (u 4) :: (u 5) :: (u 6) :: (u 7) :: (u 8) :: (u 9) :: (u 10) :: (u 11) :: (u 12) :: (u 13) :: (u 14) :: (u 15) :: (u 16) :: u108 :: u109 :: u110 :: u111 :: u112 :: u113 :: u114 :: u115 :: u116 :: u117 :: u118 :: u119 :: u120 :: u121 :: u122 :: u123 :: u124 :: u125 :: u126 :: u127 :: u128 :: u129 :: u130 :: u131 :: u132 :: u133 :: u134 :: u135 :: u136 :: u137 :: u138 :: u139 :: u140 :: u141 :: u142 :: u143 :: u144 :: u145 :: u146 :: u147 :: u148 :: u149 :: u150 :: u151 :: u152 :: u153 :: u154 :: u155 :: u156 :: u157 :: u158 :: u159 :: u160 :: u161 :: u162 :: u163 :: u164 :: u165 :: u166 :: u167 :: []), defers := [] }) (fun k => #[u91, u92, u93, u94, u95, u96, u97, u98, u99, u100, u101, u102, u103, u104, u105, u106, u107].getD k undef) rfl (fun W1 W2 => Below W1.heap.size W1 W2) (fun _ => Below.refl _ _) (fun h1 h2 => bthen h1 h2)
              (fun j9 v W1 => match j9 with
                | 0 => v = .pointer (some ⟨g, 0, none⟩)
                | 1 => v = .pointer (some ⟨g, 0, none⟩)
                | 2 => v = .pointer (some ⟨g, 0, none⟩)
                | 3 => v = .slice (some ⟨go, 0, none⟩) m.length cap
                | 4 => v = .int .i64 (p.length : Int)
                | 5 => ∃ p : Qx, v = p.v ∧ isQc (fun _ => True) W1 p.v (((1 : Int) : Rat))
                | 6 => v = .agg #[.bool dn, .slice dA dl dc, .bool dm, .slice dB dl2 dc2]
                | 7 => ∃ p : Qx, v = p.v ∧ isQc (fun _ => True) W1 p.v (((1 : Int) : Rat) / dq)
                | 8 => v = .pointer (some ⟨g, 0, none⟩)
                | 9 => v = .pointer (some ⟨g, 0, none⟩)
                | 10 => v = .pointer (some ⟨g, 0, none⟩)
                | 11 => v = .slice (some ⟨go, 0, none⟩) m.length cap
                | 12 => v = .int .i64 (p.length : Int)
                | 13 => v = .pointer (some ⟨go, p.length, none⟩)
                | 14 => v = .slice (some ⟨bD, oD, none⟩) C cD
                | 15 => ∃ A l c, v = .slice A l c ∧ Vq n0 (cqo (okr (.slice Ap p.length cp))) W1 (.slice A l c) ((M1.getD p.length []).map fun x => ((1 : Int) : Rat) / dq * x)
                | _ => True) ?hY ?step ?fin
            case hY =>
              intro k v W1 W2 h hb
              match k, h with
              | 0, h => exact h
              | 1, h => exact h
              | 2, h => exact h
              | 3, h => exact h
              | 4, h => exact h
              | 5, ⟨p, e, h⟩ => exact ⟨p, e, isQc.below h hb⟩
              | 6, h => exact h
              | 7, ⟨p, e, h⟩ => exact ⟨p, e, isQc.below h hb⟩
              | 8, h => exact h
              | 9, h => exact h
              | 10, h => exact h
              | 11, h => exact h
              | 12, h => exact h
              | 13, h => exact h
              | 14, h => exact h
              | 15, ⟨A, l, c, e, h⟩ => exact ⟨A, l, c, e, h.below (cqo_stable _) hb⟩
              | k + 16, h => trivial
            case step =>
              intro u W' j o hj ho hR hpre
              have hbw : Below wc.heap.size wc W' := bthen (bdr (b0 wc)) hR
              have hwk := HM.out.later hbw
              have f0 := hwk.blk.cell 0
              simp only [List.getElem?_cons_zero, List.getElem?_cons_succ] at f0
              obtain ⟨z0, z1, z2, z3⟩ := four1 (n3 := .bool dn) (s3 := .slice dA dl dc) (m3 := .bool dm) (t3 := .slice dB dl2 dc2) (HBX.out.below hbw)
              have rd := (hbw.cell (p := ⟨go, p.length, none⟩) hgof).trans HRD.out
              have hd := cq_stable.below HD.out hbw
              obtain rfl | rfl | rfl | rfl | rfl | rfl | rfl | rfl | rfl | rfl | rfl | rfl | rfl | rfl | rfl | rfl : j = 0 ∨ j = 1 ∨ j = 2 ∨ j = 3 ∨ j = 4 ∨ j = 5 ∨ j = 6 ∨ j = 7 ∨ j = 8 ∨ j = 9 ∨ j = 10 ∨ j = 11 ∨ j = 12 ∨ j = 13 ∨ j = 14 ∨ j = 15 := by omega
              · simp at ho
                subst ho
                simp [Region.binds] at hpre
                refine wpOpIn_step rfl (fun K' hK => ?_)
                simp only [Region.wanted]
                have HK := Lib.hid hK
                clear hK
                gi_wp2
                exact HK.out _ _ ⟨.pointer (some ⟨g, 0, none⟩), by simp [upd, undef, *], Below.refl _ _, rfl⟩
              · simp at ho
                subst ho
                simp [Region.binds] at hpre
                refine wpOpIn_step rfl (fun K' hK => ?_)
                simp only [Region.wanted]
                have HK := Lib.hid hK
                clear hK
                gi_wp2
                exact HK.out _ _ ⟨.pointer (some ⟨g, 0, none⟩), by simp [upd, undef, *], Below.refl _ _, rfl⟩
              · simp at ho
                subst ho
                simp [Region.binds] at hpre
                refine wpOpIn_step rfl (fun K' hK => ?_)
                simp only [Region.wanted]
                have HK := Lib.hid hK
                clear hK
                gi_wp2
                exact HK.out _ _ ⟨.pointer (some ⟨g, 0, none⟩), by simp [upd, undef, *], Below.refl _ _, rfl⟩
              · simp at ho
                subst ho
                simp [Region.binds] at hpre
                refine wpOpIn_step rfl (fun K' hK => ?_)
                simp only [Region.wanted]
                have HK := Lib.hid hK
                clear hK
                gi_wp2
                exact HK.out _ _ ⟨.slice (some ⟨go, 0, none⟩) m.length cap, by simp [upd, undef, *], Below.refl _ _, rfl⟩
              · simp at ho
                subst ho
                simp [Region.binds] at hpre
                refine wpOpIn_step rfl (fun K' hK => ?_)
                simp only [Region.wanted]
                have HK := Lib.hid hK
                clear hK
                gi_wp2
                exact HK.out _ _ ⟨.int .i64 (p.length : Int), by simp [upd, undef, *], Below.refl _ _, rfl⟩
              · simp at ho
                subst ho
                simp [Region.binds] at hpre
                have F := Lib.hid (fun W => @fromInt_q W 1 (by omega) (by omega))
                refine wpOpIn_step rfl (fun K' hK => ?_)
                simp only [Region.wanted]
                have HK := Lib.hid hK
                clear hK
                gi_wp2_with (gi_at_call 49; (with_reducible refine CallsIn.mono (callsIn_wide.2 (F.out _)) ?_); rintro e w1 ⟨n4, A4, l4, c4, m4, D4, e4, g4, rfl, hb1, hr1⟩)
                refine HK.out _ _ ⟨(.agg #[.bool n4, .slice A4 l4 c4, .bool m4, .slice D4 e4 g4]), by simp [upd, undef, Qx.v, Qx.zero, *], hb1, ⟨n4, .slice A4 l4 c4, m4, .slice D4 e4 g4⟩, rfl, hr1.any⟩
              · simp at ho
                subst ho
                simp [Region.binds] at hpre
                refine wpOpIn_step rfl (fun K' hK => ?_)
                simp only [Region.wanted]
                have HK := Lib.hid hK
                clear hK
                gi_wp2
                exact HK.out _ _ ⟨.agg #[.bool dn, .slice dA dl dc, .bool dm, .slice dB dl2 dc2], by simp [upd, undef, *], Below.refl _ _, rfl⟩
              · simp at ho
                subst ho
                simp [Region.binds] at hpre
                obtain ⟨⟨p1, e1', h1'⟩, e2'⟩ := hpre
                obtain ⟨n5, ⟨A5, l5, c5⟩, m5, ⟨D5, e5, g5⟩, rfl⟩ := Qx.shape (isQc.slices h1')
                simp only [Qx.v] at e1' h1'
                have HF := Lib.hid (by_c (isQc.q h1' (B := 1) (qB_one (by omega))) (isQc.q hd HDB.out) (by omega) hB0 (by omega) (by omega) HD0.out)
                refine wpOpIn_step rfl (fun K' hK => ?_)
                simp only [Region.wanted]
                have HK := Lib.hid hK
                clear hK
                gi_wp2_with (gi_at_call 247; (with_reducible refine CallsIn.mono (callsIn_wide.2 HF.out) ?_); rintro e w1 ⟨n4, A4, l4, c4, m4, D4, e4, g4, rfl, hb1, hr1⟩)
                refine HK.out _ _ ⟨(.agg #[.bool n4, .slice A4 l4 c4, .bool m4, .slice D4 e4 g4]), by simp [upd, undef, Qx.v, Qx.zero, *], hb1, ⟨n4, .slice A4 l4 c4, m4, .slice D4 e4 g4⟩, rfl, hr1.any⟩
              · simp at ho
                subst ho
                simp [Region.binds] at hpre
                refine wpOpIn_step rfl (fun K' hK => ?_)
                simp only [Region.wanted]
                have HK := Lib.hid hK
                clear hK
                gi_wp2
                exact HK.out _ _ ⟨.pointer (some ⟨g, 0, none⟩), by simp [upd, undef, *], Below.refl _ _, rfl⟩
              · simp at ho
                subst ho
                simp [Region.binds] at hpre
                refine wpOpIn_step rfl (fun K' hK => ?_)
                simp only [Region.wanted]
                have HK := Lib.hid hK
                clear hK
                gi_wp2
                exact HK.out _ _ ⟨.pointer (some ⟨g, 0, none⟩), by simp [upd, undef, *], Below.refl _ _, rfl⟩
              · simp at ho
                subst ho
                simp [Region.binds] at hpre
                refine wpOpIn_step rfl (fun K' hK => ?_)
                simp only [Region.wanted]
                have HK := Lib.hid hK
                clear hK
                gi_wp2
                exact HK.out _ _ ⟨.pointer (some ⟨g, 0, none⟩), by simp [upd, undef, *], Below.refl _ _, rfl⟩
              · simp at ho
                subst ho
                simp [Region.binds] at hpre
                refine wpOpIn_step rfl (fun K' hK => ?_)
                simp only [Region.wanted]
                have HK := Lib.hid hK
                clear hK
                gi_wp2
                exact HK.out _ _ ⟨.slice (some ⟨go, 0, none⟩) m.length cap, by simp [upd, undef, *], Below.refl _ _, rfl⟩
              · simp at ho
                subst ho
                simp [Region.binds] at hpre
                refine wpOpIn_step rfl (fun K' hK => ?_)
                simp only [Region.wanted]
                have HK := Lib.hid hK
                clear hK
                gi_wp2
                exact HK.out _ _ ⟨.int .i64 (p.length : Int), by simp [upd, undef, *], Below.refl _ _, rfl⟩
              · simp at ho
                subst ho
                simp [Region.binds] at hpre
                refine wpOpIn_step rfl (fun K' hK => ?_)
                simp only [Region.wanted]
                have HK := Lib.hid hK
                clear hK
                gi_wp2
                exact HK.out _ _ ⟨.pointer (some ⟨go, p.length, none⟩), by simp [upd, undef, *], Below.refl _ _, rfl⟩
              · simp at ho
                subst ho
                simp [Region.binds] at hpre
                refine wpOpIn_step rfl (fun K' hK => ?_)
                simp only [Region.wanted]
                have HK := Lib.hid hK
                clear hK
                gi_wp2
                exact HK.out _ _ ⟨.slice (some ⟨bD, oD, none⟩) C cD, by simp [upd, undef, *], Below.refl _ _, rfl⟩
              · simp at ho
                subst ho
                simp [Region.binds] at hpre
                obtain ⟨⟨p1, e1', h1'⟩, e2'⟩ := hpre
                obtain ⟨n5, ⟨A5, l5, c5⟩, m5, ⟨D5, e5, g5⟩, rfl⟩ := Qx.shape (isQc.slices h1')
                simp only [Qx.v] at e1' h1'
                have hvq := (HVD.out.below (cqo_stable _) hbw).imp (E' := rq (1 + B)) (fun v q hq he => isQc.q (isQc.any he) ((HRB.out q hq).mono (by omega)))
                have HF := Lib.hid (scale_f (isQc.q h1' (B := 1 + B) (qB_dv (qB_one (by omega)) HDB.out)) hvq (by omega) (by omega) (by rw [HLD.out]; omega))
                refine wpOpIn_step rfl (fun K' hK => ?_)
                simp only [Region.wanted]
                have HK := Lib.hid hK
                clear hK
                gi_wp2_with (gi_at_call 53; (with_reducible refine CallsIn.mono (callsIn_wide.2 HF.out) ?_); rintro e w1 ⟨A, l, c, rfl, hb1, hv, hf⟩)
                refine HK.out _ _ ⟨.slice A l c, by simp [upd, undef, Qx.v, Qx.zero, *], hb1, A, l, c, rfl, hv.imp (fun v q _ h => isQc.mono h (fun b _ hb e => by have h9 := (hwk.piv.lt b e).2; simp [fresh] at hb; omega))⟩
            case fin =>
              intro u W' hR hY
              have hbw : Below wc.heap.size wc W' := bthen (bdr (b0 wc)) hR
              have g3 : u 3 = .slice (some ⟨go, 0, none⟩) m.length cap := hY 3 (by omega)
              have g4 : u 4 = .int .i64 (p.length : Int) := hY 4 (by omega)
              obtain ⟨A, l, c', g15, hv⟩ := hY 15 (by omega)
              have hwk := HM.out.later hbw
              have hwk2 := hwk.setRow (i := p.length) hn0 hvD hv (fun e => hne e)
              have z0 := Hcof.out _ hwk
              have zf := hwk.frozenO
              have HW2 := Lib.hid hwk2
              have hszw := hbw.size
              have HBW := Lib.hid hbw
              have hgof2 : go < W'.heap.size := Nat.lt_of_lt_of_le hgof hszw
              obtain ⟨vz, hvz⟩ : ∃ vz, vz = vs2[p.length] := ⟨_, rfl⟩
              rw [← hvz] at z0
              clear hY hv hwk hwk2 hbw hvz hR
              refine wpTail_step (i' := 17) (c := 1) rfl ?_
              rw [g3, g4, g15]
              refine wpOpIn_step rfl (fun K' hK => ?_)
              simp only [Region.wanted, List.getElem_toArray, List.getElem_cons_succ, List.getElem_cons_zero]
              have HK := Lib.hid hK
              clear hK
              gi_wp2
              refine HK.out _ _ ?_
              clear HK
              refine wpTail_step (i' := 18) (c := 0) rfl ?_
              refine wpOpIn_step rfl (fun K' hK => ?_)
              simp only [Region.wanted, List.getElem_toArray, List.getElem_cons_succ, List.getElem_cons_zero]
              have HK := Lib.hid hK
              clear hK
              gi_wp2
              refine HK.out _ _ (wpTail_end ?_)
              clear HK
              go_wp2
              go_meet
              case rel =>
                refine ⟨_, Lib.hid (by unfold scaleR; rw [← HDQ.out, show (1 : Rat) = ((1 : Int) : Rat) by simp]; exact HW2.out), Lib.hid ((HBL.out.trans (HBW.out.mono (by have := HBL.out.size; have := HM.out.low; omega))).setCell hgo _), ?_⟩
                have := HBW.out.size; simp [World.setCell]; omega
          obtain ⟨vs3, HM3, HBL3, hsz3⟩ := hcut
          obtain ⟨M2, hM2⟩ : ∃ M2, M2 = scaleR M1 p.length k := ⟨_, rfl⟩
          rw [← hM2] at HM3
          have hl2 : M2.length = m.length := by rw [hM2, scaleR_length]; exact Hl1.out
          have hw2 : widthL M2 C := by rw [hM2]; exact scaleR_width Hw1.out (by rw [Hl1.out]; exact hpl)
          have hbd2 : ∀ j, qB (atM M2 p.length j) (2 * B + 1) := by rw [hM2]; exact fun j => scaleR_bnd Hbn1.out hB0 _ j
          have hbo2 : ∀ r, r ≠ p.length → ∀ j, qB (atM M2 r j) B := by
            intro r hr j
            rw [hM2]; unfold scaleR atM; rw [getD_setL, if_neg (fun e => hr e.1.symm)]; exact Hbn1.out r j
          have HEB := Lib.hid (fun n => elimR_bnd (k := k) hbd2 hbo2 (by omega) n)
          have Hw2 := Lib.hid (fun n (hn : n ≤ m.length) => elimR_width (k := k) hw2 (by rw [hl2]; exact hpl) n (by rw [hl2]; exact hn))
          have Hl2 := Lib.hid (fun n => (elimR_length M2 p.length k n).trans hl2)
          have HM2 := Lib.hid hM2
          clear hl2 hw2 hbd2 hbo2 hM2 HVD HD HRD HBX HM HDB HD0 HRB HLD Hw1 Hbn1 HDQ Hcof hvD hgof HBL
          have e0 := HM3.out.blk.cell 0
          simp only [List.getElem?_cons_zero, List.getElem?_cons_succ] at e0
          obtain ⟨wl, rfl⟩ : ∃ wl : World, wl = wc := ⟨_, rfl⟩
          go_upto_region 15 with fail
          go_wp2
          clear e0
          go_loopg [113] m.length (fun gh iv wr => ∃ (i : Nat) (vs' : List Value), gh = m.length - i ∧ iv = .int .i64 (i : Int) ∧ i ≤ m.length ∧ Hid (WorkI base n0 wr g (elimR M2 p.length k i) p (.slice (some ⟨go, 0, none⟩) m.length cap) (.slice Ap p.length cp) vs') ∧ Hid (Below base w wr) ∧ w.heap.size ≤ wr.heap.size)
          case atStart => exact ⟨0, vs3, rfl, rfl, by omega, HM3, HBL3, hsz3⟩
          case round =>
            obtain ⟨i, vs', rfl, rfl, him, HI, HBI, hszi⟩ := hrel
            by_cases hlt2 : i < m.length
            · obtain ⟨Mi, hMi⟩ : ∃ Mi, Mi = elimR M2 p.length k i := ⟨_, rfl⟩
              rw [← hMi] at HI
              have hlMi : Mi.length = m.length := by rw [hMi]; exact Hl2.out i
              have hwMi : widthL Mi C := by rw [hMi]; exact Hw2.out i (by omega)
              have hbMi : bndL Mi (4 * B + 2) := by rw [hMi]; exact (HEB.out i).2.2.mono (by omega)
              obtain ⟨hvI2, bI2, oI2, cI2, zn, zm, ⟨zA, zl, zc⟩, ⟨zB, zl2, zc2⟩, hvsI2, hc, hbI2, y0, y1, y2, y3⟩ := HI.out.elem hwMi (by rw [hlMi]; exact hlt2) hk
              obtain ⟨hvD2, bD2, oD2, cD2, _, _, _, _, hvsD2, _, hbD2, _⟩ := HI.out.elem hwMi (by rw [hlMi]; exact hpl) hk
              obtain ⟨go', cap', Ap', cp', es, ep, _, _, hgow, hgw, hcow⟩ := HI.out.reads (by rw [hlMi]; exact hm0)
              injection es with es es3 es2
              clear es3 ep
              injection es with es
              injection es with es ex1 ex2
              clear ex1 ex2
              subst es es2
              have rd := hcow p.length hvD2
              have ri := hcow i hvI2
              rw [hvsD2] at rd
              rw [hvsI2] at ri
              have HVD2 := Lib.hid (by have := HI.out.mat.el p.length hvD2; rwa [hvsD2] at this : Vq n0 (cqo (okr (.slice Ap p.length cp))) wr (.slice (some ⟨bD2, oD2, none⟩) C cD2) (Mi.getD p.length []))
              have HVI2 := Lib.hid (by have := HI.out.mat.el i hvI2; rwa [hvsI2] at this : Vq n0 (cqo (okr (.slice Ap p.length cp))) wr (.slice (some ⟨bI2, oI2, none⟩) C cI2) (Mi.getD i []))
              have HRB2 := Lib.hid (show ∀ r, ∀ q ∈ Mi.getD r [], qB q (4 * B + 2) from fun r q hq => by
                by_cases hr : r < Mi.length
                · exact hbMi.rows _ (by rw [List.getD_eq_getElem?_getD, List.getElem?_eq_getElem hr]; exact List.getElem_mem _) q hq
                · rw [List.getD_eq_getElem?_getD, List.getElem?_eq_none (by omega)] at hq; cases hq)
              have HLD2 := Lib.hid (hwMi p.length (by rw [hlMi]; exact hpl))
              have HLI2 := Lib.hid (hwMi i (by rw [hlMi]; exact hlt2))
              simp only at y1 y3 hc
              obtain ⟨cq0, hcq⟩ : ∃ cq0, cq0 = atM Mi i k := ⟨_, rfl⟩
              rw [← hcq] at hc
              have HCB := Lib.hid (show qB cq0 (4 * B + 2) by rw [hcq]; exact hbMi i k)
              have HC := Lib.hid (show cq wr (.agg #[.bool zn, .slice zA zl zc, .bool zm, .slice zB zl2 zc2]) cq0 from hc)
              have HCQ := Lib.hid hcq
              have HMi := Lib.hid hMi
              have HlMi := Lib.hid hlMi
              have HRD2 := Lib.hid rd
              have HRI2 := Lib.hid ri
              have e0 := HI.out.blk.cell 0
              simp only [List.getElem?_cons_zero, List.getElem?_cons_succ] at e0
              have HCO2 := Lib.hid (show ∀ (W' : World), WorkI base n0 W' g Mi p (.slice (some ⟨go, 0, none⟩) m.length cap) (.slice Ap p.length cp) vs' → W'.cell? ⟨go, i, none⟩ = some vs'[i] from fun W' H => by
                obtain ⟨_, _, _, _, e1, _, _, _, _, _, h9⟩ := H.reads (by rw [hlMi]; exact hm0)
                injection e1 with e1 _ _; injection e1 with e1; injection e1 with e1 _ _; subst e1
                exact h9 i hvI2)
              clear hMi hlMi hwMi hbMi hcow hvsI2 hvsD2 hc hcq hgw
              obtain ⟨wz, rfl⟩ : ∃ wz : World, wz = wr := ⟨_, rfl⟩
              obtain ⟨zb, hzb⟩ : ∃ zb, zb = wz.heap.size := ⟨_, rfl⟩
              have HZB := Lib.hid hzb
              clear hzb
              have HZ0 := Lib.hid (Blk.new wz [.bool zn, .slice zA zl zc, .bool zm, .slice zB zl2 zc2] 44 rfl)
              have HS := Lib.hid (sign_q (isQc.q (cq_stable.below HC.out (bal (b0 wz) (o := .cells #[.bool zn, .slice zA zl zc, .bool zm, .slice zB zl2 zc2] 44))) HCB.out) (by omega) (by omega))
              go_upto_region 19 with fail
              go_cut [133] from 114 to 157 (fun v133 W => (∃ bb, v133 = .bool bb ∧ Hid (bb = (decide (i ≠ p.length) && decide (cq0 ≠ 0)))) ∧ Hid (Below wz.heap.size wz W) ∧ Hid (Blk W wz.heap.size 44 [.bool zn, .slice zA zl zc, .bool zm, .slice zB zl2 zc2]))
              case first =>
                by_cases hip : i = p.length
                · subst hip
                  go_wp2
                  go_meet
                  case rel => exact ⟨⟨_, rfl, Lib.hid (by simp)⟩, Lib.hid (bal (b0 _)), HZ0⟩
                · have hipz : ((i : Int) == (p.length : Int)) = false := by simp; omega
                  have hipz2 : ((i : Int) != (p.length : Int)) = true := by simp; omega
                  by_cases hq0 : cq0 = 0
                  · rw [qs_zero.2 hq0] at HS
                    have HQ0 := Lib.hid hq0
                    clear hq0
                    go_wp2_with (go_at_call 51; (with_reducible refine Calls.mono HS.out ?_); rintro e w1 ⟨rfl, hb1⟩)
                    go_meet
                    case rel => exact ⟨⟨_, rfl, Lib.hid (by simp [HQ0.out])⟩, Lib.hid (bthen (bal (b0 _)) hb1), Lib.hid (HZ0.out.below hb1)⟩
                  · obtain ⟨sg, hsg⟩ : ∃ sg, sg = qs cq0 := ⟨_, rfl⟩
                    have hsg0 : sg ≠ 0 := by rw [hsg]; exact fun h => hq0 (qs_zero.1 h)
                    rw [← hsg] at HS
                    have hsg1 : (sg == 0) = false := by simpa using hsg0
                    have hsg2 : (sg != 0) = true := by simpa using hsg0
                    have HQ0 := Lib.hid hq0
                    clear hq0 hsg
                    go_wp2_with (go_at_call 51; (with_reducible refine Calls.mono HS.out ?_); rintro e w1 ⟨rfl, hb1⟩)
                    go_meet
                    case rel => exact ⟨⟨_, rfl, Lib.hid (by simp [HQ0.out, hip])⟩, Lib.hid (bthen (bal (b0 _)) hb1), Lib.hid (HZ0.out.below hb1)⟩
              obtain ⟨⟨bb, rfl, HBB⟩, hbz, HZX⟩ := hcut
              cases bb with
              | false =>
                go_wp2
                go_roundg (m.length - (i + 1))
                case rel =>
                  refine ⟨i + 1, vs', rfl, val_int (by omega), by omega, Lib.hid ?_, Lib.hid (HBI.out.trans (hbz.out.mono (by have := HBI.out.size; have := HI.out.low; omega))), Nat.le_trans hszi hbz.out.size⟩
                  rw [elimR_succ, ← HMi.out]
                  unfold elimS
                  rw [if_neg]
                  · exact HI.out.later hbz.out
                  · rintro ⟨h1, h2⟩
                    rw [← HCQ.out] at h2
                    have := HBB.out
                    simp [h1, h2] at this
                case measure => omega
              | true =>
                replace HI := Lib.hid (HI.out.later hbz.out)
                replace HVD2 := Lib.hid (HVD2.out.below (cqo_stable _) hbz.out)
                replace HVI2 := Lib.hid (HVI2.out.below (cqo_stable _) hbz.out)
                replace HC := Lib.hid (cq_stable.below HC.out hbz.out)
                replace HRD2 := Lib.hid ((hbz.out.cell (p := ⟨go, p.length, none⟩) hgow).trans HRD2.out)
                replace HRI2 := Lib.hid ((hbz.out.cell (p := ⟨go, i, none⟩) hgow).trans HRI2.out)
                replace HBI := Lib.hid (HBI.out.trans (hbz.out.mono (by have := HBI.out.size; have := HI.out.low; omega)))
                have hgow : go < wc.heap.size := Nat.lt_of_lt_of_le hgow hbz.out.size
                have hszi : w.heap.size ≤ wc.heap.size := Nat.le_trans hszi hbz.out.size
                clear hbz e0 rd ri y0 y1 y2 y3 HS HZ0
                go_upto_region 20 with fail
                refine (wpIn_wide (n := 10)).1 ?_
                refine wpIn_region_Y (by kernel_rfl) (by kernel_rfl) 22 2 rfl (by kernel_rfl) (fun u => { tmps := List.toArray ((.pointer (some ⟨g, 0, none⟩)) :: (.int .i64 (k : Int)) :: undef :: undef :: (.bool false) :: (.int .i64 (p.length : Int)) :: u6 :: u7 :: (.pointer (some ⟨wb, 0, none⟩)) :: (.int .i64 (i : Int)) :: (.pointer (some ⟨wz.heap.size, 0, none⟩)) :: u11 :: u12 :: u13 :: u14 :: u15 :: u16 :: u17 :: u18 :: u19 :: u20 :: u21 :: u22 :: u23 :: u24 :: u25 :: u26 :: u27 :: u28 :: u29 :: u30 :: u31 :: u32 :: u33 :: u34 :: u35 :: u36 :: u37 :: u38 :: u39 :: u40 :: u41 :: u42 :: u43 :: u44 :: u45 :: u46 :: u47 :: u48 :: u49 :: u50 :: u51 :: u52 :: u53 :: u54 :: u55 :: u56 :: u57 :: u58 :: u59 :: u60 :: u61 :: u62 :: u63 :: u64 :: u65 :: u66 :: u67 :: u68 :: u69 :: u70 :: u71 :: u72 :: u73 :: u74 :: u75 :: u76 :: u77 :: u78 :: u79 :: u80 :: u81 :: u82 :: u83 :: u84 :: u85 :: u86 :: u87 :: u88 :: u89 :: u90 :: u91 :: u92 :: u93 :: u94 :: u95 :: u96 :: u97 :: u98 :: u99 :: u100 :: u101 :: u102 :: u103 :: u104 :: u105 :: u106 :: u107 :: (.pointer (some ⟨g, 0, none⟩)) :: (.pointer (some ⟨g, 0, none⟩)) :: (.pointer (some ⟨g, 0, none⟩)) :: (.slice (some ⟨go, 0, none⟩) m.length cap) :: (.int .i64 (m.length : Int)) :: (.int .i64 (i : Int)) :: u114 :: u115 :: u116 :: u117 :: u118 :: u119 :: u120 :: u121 :: u122 :: u123 :: u124 :: u125 :: u126 :: u127 :: u128 :: u129 :: u130 :: u131 :: u132 :: (.bool true) :: (u 0) :: (u 1) :: (u 2) :: (u 3) :: (u 4) :: (u 5) :: (u 6) :: (u 7) :: (u 8) :: (u 9) :: (u 10) :: (u 11) :: (u 12) :: (u 13) :: (u 14) :: (u 15) :: (u 16) :: (u 17) :: (u 18) :: (u 19) :: (u 20) :: (u 21) :: (u 22) :: u157 :: u158 :: u159 :: u160 :: u161 :: u162 :: u163 :: u164 :: u165 :: u166 :: u167 :: []), defers := [] }) (fun k => #[u134, u135, u136, u137, u138, u139, u140, u141, u142, u143, u144, u145, u146, u147, u148, u149, u150, u151, u152, u153, u154, u155, u156].getD k undef) rfl (fun W1 W2 => Below W1.heap.size W1 W2) (fun _ => Below.refl _ _) (fun h1 h2 => bthen h1 h2)
                  (fun j9 v W1 => match j9 with
                    | 0 => v = .pointer (some ⟨g, 0, none⟩)
                    | 1 => v = .pointer (some ⟨g, 0, none⟩)
                    | 2 => v = .pointer (some ⟨g, 0, none⟩)
                    | 3 => v = .slice (some ⟨go, 0, none⟩) m.length cap
                    | 4 => v = .int .i64 (i : Int)
                    | 5 => v = .agg #[.bool zn, .slice zA zl zc, .bool zm, .slice zB zl2 zc2]
                    | 6 => ∃ p : Qx, v = p.v ∧ isQc (fun _ => True) W1 p.v (-cq0)
                    | 7 => v = .pointer (some ⟨g, 0, none⟩)
                    | 8 => v = .pointer (some ⟨g, 0, none⟩)
                    | 9 => v = .pointer (some ⟨g, 0, none⟩)
                    | 10 => v = .slice (some ⟨go, 0, none⟩) m.length cap
                    | 11 => v = .int .i64 (p.length : Int)
                    | 12 => v = .pointer (some ⟨go, p.length, none⟩)
                    | 13 => v = .slice (some ⟨bD2, oD2, none⟩) C cD2
                    | 14 => v = .pointer (some ⟨g, 0, none⟩)
                    | 15 => v = .pointer (some ⟨g, 0, none⟩)
                    | 16 => v = .pointer (some ⟨g, 0, none⟩)
                    | 17 => v = .slice (some ⟨go, 0, none⟩) m.length cap
                    | 18 => v = .int .i64 (i : Int)
                    | 19 => v = .pointer (some ⟨go, i, none⟩)
                    | 20 => v = .slice (some ⟨bI2, oI2, none⟩) C cI2
                    | 21 => ∃ A l c, v = .slice A l c ∧ Vq n0 (cqo (okr (.slice Ap p.length cp))) W1 (.slice A l c) (zipq (fun x y => -cq0 * x + y) (Mi.getD p.length []) (Mi.getD i []))
                    | _ => True) ?hY ?step ?fin
                case hY =>
                  intro k v W1 W2 h hb
                  match k, h with
                  | 0, h => exact h
                  | 1, h => exact h
                  | 2, h => exact h
                  | 3, h => exact h
                  | 4, h => exact h
                  | 5, h => exact h
                  | 6, ⟨p, e, h⟩ => exact ⟨p, e, isQc.below h hb⟩
                  | 7, h => exact h
                  | 8, h => exact h
                  | 9, h => exact h
                  | 10, h => exact h
                  | 11, h => exact h
                  | 12, h => exact h
                  | 13, h => exact h
                  | 14, h => exact h
                  | 15, h => exact h
                  | 16, h => exact h
                  | 17, h => exact h
                  | 18, h => exact h
                  | 19, h => exact h
                  | 20, h => exact h
                  | 21, ⟨A, l, c, e, h⟩ => exact ⟨A, l, c, e, h.below (cqo_stable _) hb⟩
                  | k + 22, h => trivial
                case step =>
                  intro u W' j o hj ho hR hpre
                  have hbw : Below wc.heap.size wc W' := bthen (bdr (b0 wc)) hR
                  have hwk := HI.out.later hbw
                  have f0 := hwk.blk.cell 0
                  simp only [List.getElem?_cons_zero, List.getElem?_cons_succ] at f0
                  obtain ⟨z0, z1, z2, z3⟩ := four1 (n3 := .bool zn) (s3 := .slice zA zl zc) (m3 := .bool zm) (t3 := .slice zB zl2 zc2) (HZX.out.below hbw)
                  have rd := (hbw.cell (p := ⟨go, p.length, none⟩) hgow).trans HRD2.out
                  have ri := (hbw.cell (p := ⟨go, i, none⟩) hgow).trans HRI2.out
                  have hd := cq_stable.below HC.out hbw
                  obtain rfl | rfl | rfl | rfl | rfl | rfl | rfl | rfl | rfl | rfl | rfl | rfl | rfl | rfl | rfl | rfl | rfl | rfl | rfl | rfl | rfl | rfl : j = 0 ∨ j = 1 ∨ j = 2 ∨ j = 3 ∨ j = 4 ∨ j = 5 ∨ j = 6 ∨ j = 7 ∨ j = 8 ∨ j = 9 ∨ j = 10 ∨ j = 11 ∨ j = 12 ∨ j = 13 ∨ j = 14 ∨ j = 15 ∨ j = 16 ∨ j = 17 ∨ j = 18 ∨ j = 19 ∨ j = 20 ∨ j = 21 := by omega
                  · simp at ho
                    subst ho
                    simp [Region.binds] at hpre
                    refine wpOpIn_step rfl (fun K' hK => ?_)
                    simp only [Region.wanted]
                    have HK := Lib.hid hK
                    clear hK
                    gi_wp2
                    exact HK.out _ _ ⟨.pointer (some ⟨g, 0, none⟩), by simp [upd, undef, *], Below.refl _ _, rfl⟩
                  · simp at ho
                    subst ho
                    simp [Region.binds] at hpre
                    refine wpOpIn_step rfl (fun K' hK => ?_)
                    simp only [Region.wanted]
                    have HK := Lib.hid hK
                    clear hK
                    gi_wp2
                    exact HK.out _ _ ⟨.pointer (some ⟨g, 0, none⟩), by simp [upd, undef, *], Below.refl _ _, rfl⟩
                  · simp at ho
                    subst ho
                    simp [Region.binds] at hpre
                    refine wpOpIn_step rfl (fun K' hK => ?_)
                    simp only [Region.wanted]
                    have HK := Lib.hid hK
                    clear hK
                    gi_wp2
                    exact HK.out _ _ ⟨.pointer (some ⟨g, 0, none⟩), by simp [upd, undef, *], Below.refl _ _, rfl⟩
                  · simp at ho
                    subst ho
                    simp [Region.binds] at hpre
                    refine wpOpIn_step rfl (fun K' hK => ?_)
                    simp only [Region.wanted]
                    have HK := Lib.hid hK
                    clear hK
                    gi_wp2
                    exact HK.out _ _ ⟨.slice (some ⟨go, 0, none⟩) m.length cap, by simp [upd, undef, *], Below.refl _ _, rfl⟩
                  · simp at ho
                    subst ho
                    simp [Region.binds] at hpre
                    refine wpOpIn_step rfl (fun K' hK => ?_)
                    simp only [Region.wanted]
                    have HK := Lib.hid hK
                    clear hK
                    gi_wp2
                    exact HK.out _ _ ⟨.int .i64 (i : Int), by simp [upd, undef, *], Below.refl _ _, rfl⟩
                  · simp at ho
                    subst ho
                    simp [Region.binds] at hpre
                    refine wpOpIn_step rfl (fun K' hK => ?_)
                    simp only [Region.wanted]
                    have HK := Lib.hid hK
                    clear hK
                    gi_wp2
                    exact HK.out _ _ ⟨.agg #[.bool zn, .slice zA zl zc, .bool zm, .slice zB zl2 zc2], by simp [upd, undef, *], Below.refl _ _, rfl⟩
                  · simp at ho
                    subst ho
                    simp [Region.binds] at hpre
                    have HF := Lib.hid (neg_q (isQc.q hd HCB.out) (by omega) (by omega))
                    refine wpOpIn_step rfl (fun K' hK => ?_)
                    simp only [Region.wanted]
                    have HK := Lib.hid hK
                    clear hK
                    gi_wp2_with (gi_at_call 67; (with_reducible refine CallsIn.mono (callsIn_wide.2 HF.out) ?_); rintro e w1 ⟨n4, A4, l4, c4, m4, D4, e4, g4, rfl, hb1, hr1⟩)
                    refine HK.out _ _ ⟨(.agg #[.bool n4, .slice A4 l4 c4, .bool m4, .slice D4 e4 g4]), by simp [upd, undef, Qx.v, Qx.zero, *], hb1, ⟨n4, .slice A4 l4 c4, m4, .slice D4 e4 g4⟩, rfl, hr1.any⟩
                  · simp at ho
                    subst ho
                    simp [Region.binds] at hpre
                    refine wpOpIn_step rfl (fun K' hK => ?_)
                    simp only [Region.wanted]
                    have HK := Lib.hid hK
                    clear hK
                    gi_wp2
                    exact HK.out _ _ ⟨.pointer (some ⟨g, 0, none⟩), by simp [upd, undef, *], Below.refl _ _, rfl⟩
                  · simp at ho
                    subst ho
                    simp [Region.binds] at hpre
                    refine wpOpIn_step rfl (fun K' hK => ?_)
                    simp only [Region.wanted]
                    have HK := Lib.hid hK
                    clear hK
                    gi_wp2
                    exact HK.out _ _ ⟨.pointer (some ⟨g, 0, none⟩), by simp [upd, undef, *], Below.refl _ _, rfl⟩
                  · simp at ho
                    subst ho
                    simp [Region.binds] at hpre
                    refine wpOpIn_step rfl (fun K' hK => ?_)
                    simp only [Region.wanted]
                    have HK := Lib.hid hK
                    clear hK
                    gi_wp2
                    exact HK.out _ _ ⟨.pointer (some ⟨g, 0, none⟩), by simp [upd, undef, *], Below.refl _ _, rfl⟩
                  · simp at ho
                    subst ho
                    simp [Region.binds] at hpre
                    refine wpOpIn_step rfl (fun K' hK => ?_)
                    simp only [Region.wanted]
                    have HK := Lib.hid hK
                    clear hK
                    gi_wp2
                    exact HK.out _ _ ⟨.slice (some ⟨go, 0, none⟩) m.length cap, by simp [upd, undef, *], Below.refl _ _, rfl⟩
                  · simp at ho
                    subst ho
                    simp [Region.binds] at hpre
                    refine wpOpIn_step rfl (fun K' hK => ?_)
                    simp only [Region.wanted]
                    have HK := Lib.hid hK
                    clear hK
                    gi_wp2
                    exact HK.out _ _ ⟨.int .i64 (p.length : Int), by simp [upd, undef, *], Below.refl _ _, rfl⟩
                  · simp at ho
                    subst ho
                    simp [Region.binds] at hpre
                    refine wpOpIn_step rfl (fun K' hK => ?_)
                    simp only [Region.wanted]
                    have HK := Lib.hid hK
                    clear hK
                    gi_wp2
                    exact HK.out _ _ ⟨.pointer (some ⟨go, p.length, none⟩), by simp [upd, undef, *], Below.refl _ _, rfl⟩
                  · simp at ho
                    subst ho
                    simp [Region.binds] at hpre
                    refine wpOpIn_step rfl (fun K' hK => ?_)
                    simp only [Region.wanted]
                    have HK := Lib.hid hK
                    clear hK
                    gi_wp2
                    exact HK.out _ _ ⟨.slice (some ⟨bD2, oD2, none⟩) C cD2, by simp [upd, undef, *], Below.refl _ _, rfl⟩
                  · simp at ho
                    subst ho
                    simp [Region.binds] at hpre
                    refine wpOpIn_step rfl (fun K' hK => ?_)
                    simp only [Region.wanted]
                    have HK := Lib.hid hK
                    clear hK
                    gi_wp2
                    exact HK.out _ _ ⟨.pointer (some ⟨g, 0, none⟩), by simp [upd, undef, *], Below.refl _ _, rfl⟩
                  · simp at ho
                    subst ho
                    simp [Region.binds] at hpre
                    refine wpOpIn_step rfl (fun K' hK => ?_)
                    simp only [Region.wanted]
                    have HK := Lib.hid hK
                    clear hK
                    gi_wp2
                    exact HK.out _ _ ⟨.pointer (some ⟨g, 0, none⟩), by simp [upd, undef, *], Below.refl _ _, rfl⟩
                  · simp at ho
                    subst ho
                    simp [Region.binds] at hpre
                    refine wpOpIn_step rfl (fun K' hK => ?_)
                    simp only [Region.wanted]
                    have HK := Lib.hid hK
                    clear hK
                    gi_wp2
                    exact HK.out _ _ ⟨.pointer (some ⟨g, 0, none⟩), by simp [upd, undef, *], Below.refl _ _, rfl⟩
                  · simp at ho
                    subst ho
                    simp [Region.binds] at hpre
                    refine wpOpIn_step rfl (fun K' hK => ?_)
                    simp only [Region.wanted]
                    have HK := Lib.hid hK
                    clear hK
                    gi_wp2
                    exact HK.out _ _ ⟨.slice (some ⟨go, 0, none⟩) m.length cap, by simp [upd, undef, *], Below.refl _ _, rfl⟩
                  · simp at ho
                    subst ho
                    simp [Region.binds] at hpre
                    refine wpOpIn_step rfl (fun K' hK => ?_)
                    simp only [Region.wanted]
                    have HK := Lib.hid hK
                    clear hK
                    gi_wp2
                    exact HK.out _ _ ⟨.int .i64 (i : Int), by simp [upd, undef, *], Below.refl _ _, rfl⟩
                  · simp at ho
                    subst ho
                    simp [Region.binds] at hpre
                    refine wpOpIn_step rfl (fun K' hK => ?_)
                    simp only [Region.wanted]
                    have HK := Lib.hid hK
                    clear hK
                    gi_wp2
                    exact HK.out _ _ ⟨.pointer (some ⟨go, i, none⟩), by simp [upd, undef, *], Below.refl _ _, rfl⟩
                  · simp at ho
                    subst ho
                    simp [Region.binds] at hpre
                    refine wpOpIn_step rfl (fun K' hK => ?_)
                    simp only [Region.wanted]
                    have HK := Lib.hid hK
                    clear hK
                    gi_wp2
                    exact HK.out _ _ ⟨.slice (some ⟨bI2, oI2, none⟩) C cI2, by simp [upd, undef, *], Below.refl _ _, rfl⟩
                  · simp at ho
                    subst ho
                    simp [Region.binds] at hpre
                    obtain ⟨⟨p1, e1', h1'⟩, e2'⟩ := hpre
                    obtain ⟨n5, ⟨A5, l5, c5⟩, m5, ⟨D5, e5, g5⟩, rfl⟩ := Qx.shape (isQc.slices h1')
                    simp only [Qx.v] at e1' h1'
                    have hvD3 := (HVD2.out.below (cqo_stable _) hbw).imp (E' := rq (4 * B + 2)) (fun v q hq he => isQc.q (isQc.any he) (HRB2.out p.length q hq))
                    have hvI3 := (HVI2.out.below (cqo_stable _) hbw).imp (E' := rq (4 * B + 2)) (fun v q hq he => isQc.q (isQc.any he) (HRB2.out i q hq))
                    have HF := Lib.hid (addScaled_f (isQc.q h1' (qB_neg HCB.out)) hvD3 hvI3 (by omega) (by omega) (by rw [HLD2.out]; omega) (by rw [HLI2.out]; omega))
                    refine wpOpIn_step rfl (fun K' hK => ?_)
                    simp only [Region.wanted]
                    have HK := Lib.hid hK
                    clear hK
                    gi_wp2_with (gi_at_call 33; (with_reducible refine CallsIn.mono (callsIn_wide.2 HF.out) ?_); rintro e w1 ⟨A, l, c, rfl, hb1, hv, hf⟩)
                    refine HK.out _ _ ⟨.slice A l c, by simp [upd, undef, Qx.v, Qx.zero, *], hb1, A, l, c, rfl, hv.imp (fun v q _ h => isQc.mono h (fun b _ hb e => by have h9 := (hwk.piv.lt b e).2; simp [fresh] at hb; omega))⟩
                case fin =>
                  intro u W' hR hY
                  have hbw : Below wc.heap.size wc W' := bthen (bdr (b0 wc)) hR
                  have g3 : u 3 = .slice (some ⟨go, 0, none⟩) m.length cap := hY 3 (by omega)
                  have g4 : u 4 = .int .i64 (i : Int) := hY 4 (by omega)
                  obtain ⟨A, l, c', g21, hv⟩ := hY 21 (by omega)
                  have hwk := HI.out.later hbw
                  have hwk2 := hwk.setRow (i := i) hn0 hvI2 hv (fun e => hne e)
                  have z0 := HCO2.out _ hwk
                  have zf := hwk.frozenO
                  have HW2 := Lib.hid hwk2
                  have hszw := hbw.size
                  have HBW := Lib.hid hbw
                  have hgof2 : go < W'.heap.size := Nat.lt_of_lt_of_le hgow hszw
                  obtain ⟨vz, hvz⟩ : ∃ vz, vz = vs'[i] := ⟨_, rfl⟩
                  rw [← hvz] at z0
                  clear hY hv hwk hwk2 hbw hvz hR
                  refine wpTail_step (i' := 23) (c := 1) rfl ?_
                  rw [g3, g4, g21]
                  refine wpOpIn_step rfl (fun K' hK => ?_)
                  simp only [Region.wanted, List.getElem_toArray, List.getElem_cons_succ, List.getElem_cons_zero]
                  have HK := Lib.hid hK
                  clear hK
                  gi_wp2
                  refine HK.out _ _ ?_
                  clear HK
                  refine wpTail_step (i' := 24) (c := 0) rfl ?_
                  refine wpOpIn_step rfl (fun K' hK => ?_)
                  simp only [Region.wanted, List.getElem_toArray, List.getElem_cons_succ, List.getElem_cons_zero]
                  have HK := Lib.hid hK
                  clear hK
                  gi_wp2
                  refine HK.out _ _ (wpTail_end ?_)
                  clear HK
                  go_wp2
                  go_roundg (m.length - (i + 1))
                  case rel =>
                    have hb := HBB.out
                    simp at hb
                    have e9 : elimR M2 p.length k (i + 1) = Mi.set i (zipq (fun x y => -cq0 * x + y) (Mi.getD p.length []) (Mi.getD i [])) := by
                      have hq := HCQ.out
                      subst hq
                      rw [elimR_succ, ← HMi.out]
                      unfold elimS
                      rw [if_pos ⟨hb.1, hb.2⟩]
                    have hs9 := HBW.out.size
                    have hb9 : Below base w W' := HBI.out.trans (HBW.out.mono (by have := HBI.out.size; have := HI.out.low; omega))
                    have hw9 := HW2.out
                    rw [← e9] at hw9
                    have hz9 : (W'.setCell ⟨go, i, none⟩ (.slice A l c')).heap.size = W'.heap.size := by simp [World.setCell]
                    exact ⟨i + 1, vs'.set i (.slice A l c'), rfl, val_int (by omega), by omega, Lib.hid hw9, Lib.hid (hb9.setCell hgo _), by rw [hz9]; omega⟩
                  case measure => omega
            · obtain rfl : i = m.length := by omega
              obtain ⟨i0, hi0, hz0, hz1, hz2⟩ := info_parts' Tryz.info3
              have d0 := HI.out.blk.cell 0
              have d1 := HI.out.blk.cell 1
              simp only [List.getElem?_cons_zero, List.getElem?_cons_succ] at d0 d1
              have hgw := HI.out.blk.lt
              obtain ⟨wz, rfl⟩ : ∃ wz : World, wz = wr := ⟨_, rfl⟩
              have HA := Lib.hid (HI.out.later (bal (b0 wz) (o := .cells #[.int .i64 (k : Int)] 3)))
              go_wp2_with (at_builtin; refine wpList_append_1 rfl (.tmp 162) (.tmp 164) 25 rfl base 3 i0 (.int .i64 0) 1 8 Tryz.under25 hi0 hz0 hz1 hz2 rfl (by decide) _ _ _ rfl HA.out.piv ⟨wz.heap.size, 0, none⟩ 1 1 [.int .i64 (k : Int)] rfl rfl ?c1 ?c2 ?c3 ?c4 ?c5 ?_)
              case c1 =>
                intro j u hu
                rw [addr_add0, Nat.zero_add, World.cell?_alloc_new]; simpa using hu
              case c2 => intro u hu; simp at hu; subst hu; simp [Value.oneCell']
              case c3 => unfold maxLen; omega
              case c4 => omega
              case c5 => have := HI.out.low; simp; omega
              intro A2 cc w3 hown' hgrow hblk
              have hp1 := HA.out.pushB hgrow
              have z0 := hp1.cell 1
              have zf := hp1.frozen
              simp only [List.getElem?_cons_zero, List.getElem?_cons_succ] at z0
              have HP := Lib.hid (HA.out.push hn0 hown' hgrow (fun b hb => (hblk b hb).imp_right (fun h => by simpa using h)))
              have hglt := hp1.lt
              have HB3 := Lib.hid (show Below base w w3 from (HBI.out.trans ((bal (b0 wz) (o := .cells #[.int .i64 (k : Int)] 3)).mono (by have := HI.out.low; omega))).grown hgrow (by have := HI.out.low; simp; omega) (fun b hb => (HA.out.piv.lt b hb).1))
              have hs3 := hgrow.size
              simp at hs3
              clear hown' hgrow hblk hp1
              go_wp2
              try rw [Exit.noGoto_ret]
              go_ret
              have hcs : colS m p k = (elimR M2 p.length k m.length, p ++ [k]) := by
                have e1 := HFD.out
                have e2 := HM2.out
                have e3 := HM1.out
                subst e3
                subst e2
                unfold colS
                simp only [e1]
              rw [hcs]
              exact ⟨⟨_, rfl⟩, HB3.out.setCell HI.out.low _, by simp [World.setCell]; omega, .slice (some ⟨go, 0, none⟩) m.length cap, .slice A2 (p.length + 1) cc, vs', HP.out⟩
    · have hnone : findI m k p.length (m.length - p.length) = none := by
        rw [HF.out, show m.length - i = 0 by omega]; rfl
      have hcs : colS m p k = (m, p) := by unfold colS; rw [hnone]
      have HCS := Lib.hid hcs
      clear hnone hcs
      go_wp2
      try rw [Exit.noGoto_ret]
      go_ret
      refine ⟨⟨_, rfl⟩, hbl.mono (by have := HH.out.low; omega), hbl.size, .slice (some ⟨go, 0, none⟩) m.length cap, .slice Ap p.length cp, vs, ?_⟩
      rw [HCS.out]
      exact hwk.out
end Go.Proofs.YtdkfdamihnieiaaGreat
end
