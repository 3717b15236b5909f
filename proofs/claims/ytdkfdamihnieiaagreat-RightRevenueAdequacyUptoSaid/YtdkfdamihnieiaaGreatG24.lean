/- island.stands. -/
import Derived.Test.YtdkfdamihnieiaaGreatG23
import Derived.Test.YtdkfdamihnieiaaGreatG18
set_option linter.unusedSimpArgs false
set_option linter.unusedVariables false
section
open Go Go.RowKit Go.Shelf
namespace Go.Proofs.YtdkfdamihnieiaaGreat
open Go.Proofs
attribute [local go_sem] Oper.semAt_some wide_fn wide_depth
theorem lnok_of {b : Int} {ls : List Ln} (h : ls.all (lnok b) = true) {l : Ln} (hl : l ∈ ls) : 0 ≤ l.f ∧ l.f < b ∧ 0 ≤ l.t ∧ l.t < b ∧ l.f ≠ l.t ∧ 1 ≤ l.x ∧ l.x ≤ 1000 ∧ 0 ≤ l.c ∧ l.c ≤ 1000000 := by
  have := List.all_eq_true.1 h l hl
  simp only [lnok, hasL, isB, Bool.and_eq_true, decide_eq_true_eq] at this
  omega
theorem servL_mem {ls : List Ln} {out : List Int} {l : Ln} (h : l ∈ servL ls out) : l ∈ ls := by
  unfold servL at h
  obtain ⟨k, hk, rfl⟩ := List.mem_map.1 h
  have := (serv_mem hk).1
  rw [List.getD_eq_getElem?_getD, List.getElem?_eq_getElem this]; exact List.getElem_mem this
theorem servL_length (ls : List Ln) (out : List Int) : (servL ls out).length ≤ ls.length := by unfold servL; rw [List.length_map]; exact serv_le _ _
theorem bdrN (w : World) (n : Nat) : Below w.heap.size w (w.drewN n) := (Below.refl _ _).trans ⟨rfl, rfl, rfl, Nat.le_refl _, fun _ _ => rfl⟩
/-- The list in its box, a row of the call's own. -/
structure LstI (h base : Nat) (w W : World) (g : Nat) (v : Value) (ps : List Nat) : Prop where
  box : Blk W g 25 [v]
  own : W.ownsRow base 3 1 v ps.length (i64s (intsL ps))
  below : Below h w W
  same : ∀ k, k < base → k ≠ g → W.heap[k]? = w.heap[k]?
  low : g < base
  hg : h ≤ g
  size : base ≤ W.heap.size
theorem LstI.later {h base w W W' g v ps} (H : LstI h base w W g v ps) (hb : Below W.heap.size W W') : LstI h base w W' g v ps := ⟨H.box.below hb, row_below H.own hb, H.below.trans (hb.mono (by have := H.size; have := H.low; have := H.hg; omega)), fun k h1 h2 => (hb.block k (by have := H.size; omega)).trans (H.same k h1 h2), H.low, H.hg, Nat.le_trans H.size hb.size⟩
theorem LstI.vi {h base w W g v ps} (H : LstI h base w W g v ps) : Vi W v (intsL ps) := by
  have := own_sl H.own
  unfold Vi; rw [intsL_length]; exact this
/-- Lines that lie apart from the box. -/
theorem LstI.vl {h base w W g v ps} (H : LstI h base w W g v ps) {u sv : Value} {ms : List Ln} (hu : Blk w g 25 [u]) (hs : ∃ A l c, u = .slice A l c) (hw : w.heap.size ≤ base) (hv : Vl w sv ms) : Vl W sv ms := by
  obtain ⟨A, c, e, h1, h2, h3⟩ := hv
  refine ⟨A, c, e, h1, h2, fun h0 => ?_⟩
  obtain ⟨b, o, hA, hc⟩ := h3 h0
  refine ⟨b, o, hA, fun j hj => ?_⟩
  have h4 := hc j hj
  rw [List.getElem?_eq_getElem hj] at h4 ⊢
  have hbl : b < w.heap.size := World.block_lt_of_cell? w ⟨b, o + j, none⟩ h4
  refine (World.cell?_of_block (w := w) (a := ⟨b, o + j, none⟩) (H.same b (by omega) (fun e => ?_))).trans h4
  subst e
  rw [hu.cell] at h4
  obtain ⟨A', l', c', rfl⟩ := hs
  have hint : ∃ z, (lcs ms)[j] = .int .i64 z := by
    have hj2 : j < ms.length * 4 := by rw [lcs_length] at hj; exact hj
    have := lcs_get ms (j / 4) (j % 4) (by omega) (by omega)
    rw [show j / 4 * 4 + j % 4 = j by omega, List.getElem?_eq_getElem hj] at this
    obtain h | h | h | h : j % 4 = 0 ∨ j % 4 = 1 ∨ j % 4 = 2 ∨ j % 4 = 3 := by omega
    all_goals
      rw [h] at this
      simp only [Ln.cs, List.getElem?_cons_zero, List.getElem?_cons_succ] at this
      injection this with this
      exact ⟨_, this⟩
  obtain ⟨z, hz⟩ := hint
  rw [hz] at h4
  cases hoj : o + j with
  | zero => rw [hoj] at h4; simp at h4
  | succ k => rw [hoj] at h4; simp at h4
theorem own_set {W : World} {base : Nat} {e : TypeId} {gr n cap : Nat} {xs : List Value} (H : W.ownsRow base e 1 (.slice (some ⟨gr, 0, none⟩) n cap) n xs) (j : Nat) (x : Value) : (W.setCell ⟨gr, j, none⟩ x).ownsRow base e 1 (.slice (some ⟨gr, 0, none⟩) n cap) n (xs.set j x) := by
  rcases H.2 with ⟨h, _⟩ | ⟨g', cap', cur, h, hg, hh, h1, h2, h3, h4⟩
  · cases h
  · injection h with h e3 e2
    injection h with h
    injection h with h _ _
    subst h e2
    refine ⟨by rw [List.length_set]; exact H.1, .inr ⟨gr, cap, cur.setIfInBounds j x, rfl, hg, ?_, h1, h2, by simpa using h3, ?_⟩⟩
    · obtain ⟨hlt, hk⟩ := Array.getElem?_eq_some_iff.1 hh
      show (W.heap.modify gr _)[gr]? = _
      rw [Array.getElem?_eq_getElem (by rw [Array.size_modify]; exact hlt), Array.getElem_modify_self, hk]
      rfl
    · rw [Array.toList_setIfInBounds, List.take_set, h4]
theorem own_addr {W : World} {base n : Nat} {e : TypeId} {size : Nat} {v : Value} {xs : List Value} (H : W.ownsRow base e size v n xs) (h0 : 0 < n) : ∃ gr cap, v = .slice (some ⟨gr, 0, none⟩) n cap ∧ base ≤ gr ∧ gr < W.heap.size := by
  rcases H.2 with ⟨_, h⟩ | ⟨g', cap', cur, h, hg, hh, _⟩
  · omega
  · exact ⟨g', cap', h, hg, (Array.getElem?_eq_some_iff.1 hh).1⟩
theorem own_frozen {W : World} {base n n' cap gr : Nat} {e : TypeId} {size : Nat} {xs : List Value} (H : W.ownsRow base e size (.slice (some ⟨gr, 0, none⟩) n' cap) n xs) (j : Nat) : W.frozen? ⟨gr, j, none⟩ = false := by
  rcases H.2 with ⟨h, _⟩ | ⟨g', cap', cur, h, hg, hh, _⟩
  · cases h
  · injection h with h _ _
    injection h with h
    injection h with h _ _
    subst h
    simp [World.frozen?, hh]
theorem own_cell {W : World} {base n n' cap gr : Nat} {e : TypeId} {xs : List Value} (H : W.ownsRow base e 1 (.slice (some ⟨gr, 0, none⟩) n' cap) n xs) {j : Nat} (hj : j < xs.length) : W.cell? ⟨gr, j, none⟩ = some xs[j] := by
  rcases H.2 with ⟨h, _⟩ | ⟨g', cap', cur, h, hg, hh, h1, h2, h3, h4⟩
  · cases h
  · injection h with h _ _
    injection h with h
    injection h with h _ _
    subst h
    rw [cell_of_row W gr j cur e (0, 0) hh]
    have h5 : xs[j]? = some xs[j] := List.getElem?_eq_getElem hj
    have h6 : (List.take (n * 1) cur.toList)[j]? = xs[j]? := by rw [h4]
    rw [List.getElem?_take_of_lt (by have := H.1; omega), h5] at h6
    simpa using h6
theorem LstI.pushB {h base w W W1 g v ps} (H : LstI h base w W g v ps) (hg : W.grownBy W1 v.ownBlock) : Blk W1 g 25 [v] := (hg.block g H.box.lt (own_apart H.own H.box (by decide))).trans H.box
theorem LstI.push {h base w W W1 g v ps k} {v' : Value} (H : LstI h base w W g v ps) (hown : W1.ownsRow base 3 1 v' (ps.length + 1) (i64s (intsL ps) ++ [.int .i64 ((k : Nat) : Int)])) (hg : W.grownBy W1 v.ownBlock) : LstI h base w (W1.setCell ⟨g, 0, none⟩ v') g v' (ps ++ [k]) := by
  have hB := H.pushB hg
  have hb := hB.set 0 v'
  have hh := H.hg
  have hl := H.low
  have hz := H.size
  refine ⟨hb, ?_, (H.below.grown hg (by omega) (fun r hr => by have := (H.own.lt r hr).1; omega)).setCell hh _, fun k h1 h2 => ?_, H.low, H.hg, ?_⟩
  · rw [List.length_append, List.length_singleton]
    unfold intsL i64s
    rw [List.map_append, List.map_append]
    exact ownsRow_setCell_other hown (fun e => own_type hown hB (by decide) e) v'
  · refine (Below.heap_setCell _ _ _ _ h2).trans ((hg.block k (by omega) (fun e => ?_)).trans (H.same k h1 h2))
    have := (H.own.lt k e.symm).1; omega
  · have := hg.size; simp [World.setCell]; omega
theorem LstI.put {h base w W g gr n cap ps} (H : LstI h base w W g (.slice (some ⟨gr, 0, none⟩) n cap) ps) (hn : n = ps.length) (hgr : base ≤ gr) (j q : Nat) : LstI h base w (W.setCell ⟨gr, j, none⟩ (.int .i64 (q : Int))) g (.slice (some ⟨gr, 0, none⟩) n cap) (ps.set j q) := by
  have hh := H.hg
  have hl := H.low
  have hz := H.size
  refine ⟨H.box.setNe _ (by simp; omega), ?_, H.below.setCell (by simp; omega) _, fun k h1 h2 => (Below.heap_setCell _ _ _ _ (by simp; omega)).trans (H.same k h1 h2), H.low, H.hg, by simpa [World.setCell] using hz⟩
  rw [List.length_set, ← hn]
  have := H.own
  rw [← hn] at this
  have h2 := own_set this j (.int .i64 (q : Int))
  unfold i64s intsL at h2 ⊢
  rw [List.map_set, List.map_set]
  exact h2
theorem LstI.start {h : Nat} {W : World} {g : Nat} (hb : Blk W g 25 [.slice none 0 0]) (hg : h ≤ g) : LstI h W.heap.size W W g (.slice none 0 0) [] := ⟨hb, World.ownsRow_nil _ _ _ _, Below.refl _ _, fun _ _ _ => rfl, hb.lt, hg, Nat.le_refl _⟩
set_option maxRecDepth 100000 in
set_option maxHeartbeats 4000000 in
theorem stands_o {w : World} {n : Nat} {v vo : Value} {ls : List Ln} {out : List Int} (h : Vl w v ls) (ho : Vi w vo out) (he : outsS (n : Int) ls out = 0) : Calls Tryz.prog 102 #[.agg #[.int .i64 (n : Int), v], vo] w fun e w' =>
    ∃ A l c, e = .returned (.tuple #[.slice A l c, .int .i64 0]) ∧ Below w.heap.size w w' ∧ Vi w' (.slice A l c) (intsL (standsS n (servL ls out))) := by
  obtain ⟨hchk, _⟩ := outs_ok he
  obtain ⟨hn1, hn6, hll, hall⟩ := chk_ok hchk
  have HS := Lib.hid (fun W (hb : Below w.heap.size w W) => strip_o (h.below hb) (ho.below hb) he)
  obtain ⟨A1, l1, c1, rfl⟩ := h.shape
  obtain ⟨A2, l2, c2, rfl⟩ := ho.shape
  have HALL := Lib.hid (fun l (hl : l ∈ servL ls out) => lnok_of hall (servL_mem hl))
  have hsl : (servL ls out).length ≤ 10 := Nat.le_trans (servL_length ls out) hll
  obtain ⟨ms, hms⟩ : ∃ ms, ms = servL ls out := ⟨_, rfl⟩
  rw [← hms] at HALL hsl HS ⊢
  clear h ho he hchk hall hms hll
  have HW := Lib.hid (HS.out _ (bal (bal (b0 w) (o := .cells #[.int .i64 (n : Int), .slice A1 l1 c1] 24)) (o := .cells #[.slice none 0 0] 25)))
  go_enter Tryz.func102, Tryz.ntmps102
  go_wp2
  go_step3
  go_wp2_with (go_at_call 104; (with_reducible refine Calls.mono HW.out ?_); rintro e w1 ⟨A, l, c, A', l', c', rfl, hb1, hv1, hv2⟩; have B1 := Bx.step (Bx.refl (n := w.heap.size + 2) ((w.alloc (Obj.cells #[.int .i64 (n : Int), .slice A1 l1 c1] 24)).alloc (Obj.cells #[.slice none 0 0] 25)) (by simp)) hb1; have k1 := B1.cell; have f1 := B1.frozen; have s1 := B1.s; have s2 : w.heap.size < w1.heap.size := (by omega); have s3 : w.heap.size + 1 < w1.heap.size := (by omega); have HB1 := Lib.hid hb1; have HV1 := Lib.hid hv1; clear hb1 hv1 hv2)
  obtain ⟨W2, hW2⟩ : ∃ W2, W2 = w1.alloc (Obj.cells #[.int .i64 (n : Int), .slice A l c] 24) := ⟨_, rfl⟩
  rw [← hW2]
  have HB2 := Lib.hid (show Below w.heap.size w W2 by rw [hW2]; exact bal (bthen (bal (bal (b0 w))) HB1.out))
  have hx4 : Blk W2 (w.heap.size + 1) 25 [.slice none 0 0] := by rw [hW2]; exact ((Blk.new (w.alloc (Obj.cells #[.int .i64 (n : Int), .slice A1 l1 c1] 24)) [.slice none 0 0] 25 (n := w.heap.size + 1) (by simp)).below HB1.out).al
  have HX6 := Lib.hid (show Blk W2 w1.heap.size 24 [.int .i64 (n : Int), .slice A l c] by rw [hW2]; exact Blk.new w1 [.int .i64 (n : Int), .slice A l c] 24 rfl)
  have HV := Lib.hid (show Vl W2 (.slice A l c) ms by rw [hW2]; exact HV1.out.below (bal (b0 _)))
  have hsz2 : W2.heap.size = w1.heap.size + 1 := by rw [hW2]; simp
  have HX4 := Lib.hid hx4
  have HL0 := Lib.hid (LstI.start (h := w.heap.size) hx4 (by omega))
  have HSZ := Lib.hid hsz2
  obtain ⟨i0, hi, hz0, hz1, hz2⟩ := info_parts' Tryz.info3
  clear B1 k1 f1 hW2 hx4 HV1 HB1 hsz2 HW HS
  go_loopg [27] n (fun gh iv wr => ∃ (k : Nat) (v : Value), gh = n - k ∧ iv = .int .i64 (k : Int) ∧ k ≤ n ∧ Hid (LstI w.heap.size W2.heap.size W2 wr (w.heap.size + 1) v (List.range k)))
  case atStart => exact ⟨0, _, rfl, rfl, Nat.zero_le _, HL0⟩
  case round =>
    obtain ⟨k, v, rfl, rfl, hk, HI⟩ := hrel
    obtain ⟨ps, hps⟩ : ∃ ps, ps = List.range k := ⟨_, rfl⟩
    have HPS := Lib.hid hps
    have hpl : ps.length = k := by rw [hps]; simp
    rw [← hps] at HI
    clear hps
    have HPL := Lib.hid hpl
    obtain ⟨Av, cv, rfl⟩ := own_slice HI.out.own
    clear hpl
    obtain ⟨wo, rfl⟩ : ∃ wo : World, wo = wr := ⟨_, rfl⟩
    by_cases hlt : k < n
    · have d4 := HI.out.box.cell 0
      simp only [List.getElem?_cons_zero] at d4
      have hg4 := HI.out.box.lt
      have HA := Lib.hid (HI.out.later (bal (b0 wo) (o := .cells #[.int .i64 (k : Int)] 3)))
      go_wp2_with (at_builtin; refine wpList_append_1 rfl (.tmp 30) (.tmp 32) 25 rfl W2.heap.size 3 i0 (.int .i64 0) 1 8 Tryz.under25 hi hz0 hz1 hz2 rfl (by decide) _ _ _ rfl HA.out.own ⟨wo.heap.size, 0, none⟩ 1 1 [.int .i64 (k : Int)] rfl rfl ?c1 ?c2 ?c3 ?c4 ?c5 ?_)
      case c1 =>
        intro j u hu
        rw [addr_add0, Nat.zero_add, World.cell?_alloc_new]; simpa using hu
      case c2 => intro u hu; simp at hu; subst hu; simp [Value.oneCell']
      case c3 => rw [HPL.out]; unfold maxLen; omega
      case c4 => rw [HPL.out]; omega
      case c5 => have := HI.out.size; simp; omega
      intro A2 cc w5 hown' hgrow hblk
      have hB5 := HA.out.pushB hgrow
      have z0 := hB5.cell 0
      have zf := hB5.frozen 0
      simp only [List.getElem?_cons_zero] at z0
      have HP := Lib.hid (HA.out.push hown' hgrow)
      clear hown' hgrow hblk hB5
      go_wp2
      go_roundg (n - (k + 1))
      case rel => exact ⟨k + 1, _, rfl, val_int (by omega), by omega, Lib.hid (by rw [List.range_succ, ← HPS.out]; exact HP.out)⟩
      case measure => omega
    · obtain rfl : n = k := by omega
      go_wp2
      have hx6 : Blk wo w1.heap.size 24 [.int .i64 (n : Int), .slice A l c] := (HI.out.same _ HX6.out.lt (by omega)).trans HX6.out
      have d61 := hx6.cell 1
      simp only [List.getElem?_cons_zero, List.getElem?_cons_succ] at d61
      obtain rfl := HV.out.len
      clear hx6
      obtain ⟨gr, cap, ev, hgr1, hgr2⟩ := own_addr HI.out.own (by rw [HPL.out]; omega)
      injection ev with ev1 ev2 ev3
      subst ev1 ev3
      have hpl := HPL.out
      rw [hpl] at HI
      clear hpl ev2
      go_step3
      go_wp2
      go_loopg [39] ms.length (fun gh iv wr => ∃ (k : Nat) (qs : List Nat), gh = ms.length - k ∧ iv = .int .i64 (k : Int) ∧ k ≤ ms.length ∧ Hid (qs = (ms.take k).foldl joinS (List.range n)) ∧ Hid (LstI w.heap.size W2.heap.size W2 wr (w.heap.size + 1) (.slice (some ⟨gr, 0, none⟩) n cv) qs))
      case atStart => exact ⟨0, ps, rfl, rfl, Nat.zero_le _, Lib.hid (by simpa using HPS.out), HI⟩
      case round =>
        obtain ⟨k, qs, rfl, rfl, hk, HQ, HJ⟩ := hrel
        obtain ⟨wp, rfl⟩ : ∃ wp : World, wp = wr := ⟨_, rfl⟩
        have HQB := Lib.hid (show qs.length = n ∧ dnL qs by rw [HQ.out]; exact joins_both n _)
        by_cases hlt : k < ms.length
        · obtain ⟨bl, ol, hA, hc⟩ := (HJ.out.vl HX4.out ⟨_, _, _, rfl⟩ (Nat.le_refl _) HV.out).at (by omega)
          subst hA
          obtain ⟨d0, d1, d2, d3⟩ := hc k hlt
          have hmem : ms.getD k Ln.zero ∈ ms := by rw [List.getD_eq_getElem?_getD, List.getElem?_eq_getElem hlt]; exact List.getElem_mem hlt
          have hjn : (ms.take (k + 1)).foldl joinS (List.range n) = joinS ((ms.take k).foldl joinS (List.range n)) (ms.getD k Ln.zero) := by
            rw [List.take_succ_eq_append_getElem hlt, List.foldl_append, List.getD_eq_getElem?_getD, List.getElem?_eq_getElem hlt]; rfl
          obtain ⟨x, hx⟩ : ∃ x, x = ms.getD k Ln.zero := ⟨_, rfl⟩
          rw [← hx] at d0 d1 d2 d3 hmem hjn
          rw [← HQ.out] at hjn
          obtain ⟨f0, fb, t0, tb, _⟩ := HALL.out x hmem
          obtain ⟨xf, xt, xx, xc⟩ := x
          simp only at f0 fb t0 tb d0 d1 d2 d3
          obtain ⟨f, rfl⟩ := Int.eq_ofNat_of_zero_le f0
          obtain ⟨u0, rfl⟩ := Int.eq_ofNat_of_zero_le t0
          have hbl : bl < wp.heap.size := World.block_lt_of_cell? wp _ d0
          have HA := Lib.hid (HJ.out.later (bal (b0 wp) (o := .cells #[.int .i64 (f : Int), .int .i64 (u0 : Int), .int .i64 xx, .int .i64 xc] 68)))
          have HF := Lib.hid (fun W' (hw : Below (wp.alloc (.cells #[.int .i64 (f : Int), .int .i64 (u0 : Int), .int .i64 xx, .int .i64 xc] 68)).heap.size (wp.alloc (.cells #[.int .i64 (f : Int), .int .i64 (u0 : Int), .int .i64 xx, .int .i64 xc] 68)) W') => find_c (w := W') (g := w.heap.size + 1) (HA.out.later hw).vi (by simpa using (HA.out.later hw).box.cell 0) HQB.out.2 f (by rw [HQB.out.1]; omega))
          have HU := Lib.hid (fun W' (hw : Below (wp.alloc (.cells #[.int .i64 (f : Int), .int .i64 (u0 : Int), .int .i64 xx, .int .i64 xc] 68)).heap.size (wp.alloc (.cells #[.int .i64 (f : Int), .int .i64 (u0 : Int), .int .i64 xx, .int .i64 xc] 68)) W') => find_c (w := W') (g := w.heap.size + 1) (HA.out.later hw).vi (by simpa using (HA.out.later hw).box.cell 0) HQB.out.2 u0 (by rw [HQB.out.1]; omega))
          have hjn2 : (ms.take (k + 1)).foldl joinS (List.range n) = if root qs f = root qs u0 then qs else qs.set (max (root qs f) (root qs u0)) (min (root qs f) (root qs u0)) := hjn
          have ha := root_le HQB.out.2 f
          have hb := root_le HQB.out.2 u0
          obtain ⟨a, ha1⟩ : ∃ a, a = root qs f := ⟨_, rfl⟩
          obtain ⟨b, hb1⟩ : ∃ b, b = root qs u0 := ⟨_, rfl⟩
          rw [← ha1, ← hb1] at hjn2
          rw [← ha1] at HF ha
          rw [← hb1] at HU hb
          have HJN := Lib.hid hjn2
          clear hc hx hjn hjn2 ha1 hb1 hmem
          have HXB := Lib.hid (Blk.new wp [.int .i64 (f : Int), .int .i64 (u0 : Int), .int .i64 xx, .int .i64 xc] 68 rfl)
          go_wp2
          refine (wpIn_wide (n := 10)).1 ?_
          refine wpIn_region_Y (by kernel_rfl) (by kernel_rfl) 8 2 rfl (by kernel_rfl) (fun u => { tmps := List.toArray ((Value.agg #[Value.int IntKind.i64 ↑n, Value.slice A1 l1 c1]) :: (Value.slice A2 l2 c2) :: (Value.pointer (some { block := w.heap.size, off := 0 })) :: undef :: (Value.pointer (some { block := w.heap.size + 1, off := 0 })) :: (Value.int IntKind.i64 0) :: (Value.pointer (some { block := w1.heap.size, off := 0 })) :: (Value.slice A' l' c') :: u8 :: (Value.func (Fn.func 175) #[] #[Value.pointer (some { block := w.heap.size + 1, off := 0 })]) :: undef :: (Value.pointer (some { block := wp.heap.size, off := 0 })) :: u12 :: u13 :: undef :: (Value.tuple #[Value.agg #[Value.int IntKind.i64 ↑n, Value.slice (some { block := bl, off := ol }) ms.length c], Value.slice A' l' c', Value.int IntKind.i64 0]) :: (Value.agg #[Value.int IntKind.i64 ↑n, Value.slice A1 l1 c1]) :: (Value.slice A2 l2 c2) :: (Value.tuple #[Value.agg #[Value.int IntKind.i64 ↑n, Value.slice (some { block := bl, off := ol }) ms.length c], Value.slice A' l' c', Value.int IntKind.i64 0]) :: (Value.agg #[Value.int IntKind.i64 ↑n, Value.slice (some { block := bl, off := ol }) ms.length c]) :: (Value.slice A' l' c') :: (Value.int IntKind.i64 0) :: (Value.int IntKind.i64 0) :: (Value.bool false) :: undef :: (Value.pointer (some { block := w.heap.size, off := 0 })) :: (Value.int IntKind.i64 ↑n) :: (Value.int IntKind.i64 ↑n) :: (Value.bool false) :: u29 :: u30 :: u31 :: u32 :: u33 :: u34 :: (Value.func (Fn.func 175) #[] #[Value.pointer (some { block := w.heap.size + 1, off := 0 })]) :: (Value.pointer (some { block := w1.heap.size, off := 1 })) :: (Value.slice (some { block := bl, off := ol }) ms.length c) :: (Value.int IntKind.i64 ↑ms.length) :: (Value.int IntKind.i64 ↑k) :: (Value.bool true) :: (Value.pointer (some { block := bl, off := ol + k * 4 })) :: (Value.agg #[Value.int IntKind.i64 ↑f, Value.int IntKind.i64 (u0 : Int), Value.int IntKind.i64 xx, Value.int IntKind.i64 xc]) :: (u 0) :: (u 1) :: (u 2) :: (u 3) :: (u 4) :: (u 5) :: (u 6) :: (u 7) :: u51 :: u52 :: u53 :: u54 :: u55 :: u56 :: u57 :: u58 :: u59 :: u60 :: u61 :: u62 :: undef :: undef :: undef :: undef :: undef :: undef :: undef :: undef :: undef :: undef :: undef :: undef :: undef :: []), defers := [] }) (fun k => #[u43, u44, u45, u46, u47, u48, u49, u50].getD k undef) rfl (fun W1 W2 => Below W1.heap.size W1 W2) (fun _ => Below.refl _ _) (fun h1 h2 => bthen h1 h2)
            (fun j9 v W1 => match j9 with
              | 0 => v = Value.func (.func 175) #[] #[.pointer (some ⟨w.heap.size + 1, 0, none⟩)]
              | 1 => v = Value.pointer (some ⟨wp.heap.size, 0, none⟩)
              | 2 => v = Value.int .i64 (f : Int)
              | 3 => v = Value.int .i64 (a : Int)
              | 4 => v = Value.func (.func 175) #[] #[.pointer (some ⟨w.heap.size + 1, 0, none⟩)]
              | 5 => v = Value.pointer (some ⟨wp.heap.size, 1, none⟩)
              | 6 => v = Value.int .i64 (u0 : Int)
              | 7 => v = Value.int .i64 (b : Int)
              | _ => True) ?hY ?step ?fin
          case hY =>
            intro k v W1 W2 h hb
            match k, h with
            | 0, h => exact h
            | 1, h => exact h
            | 2, h => exact h
            | 3, h => exact h
            | 4, h => exact h
            | 5, h => exact h
            | 6, h => exact h
            | 7, h => exact h
            | k + 8, h => trivial
          case step =>
            intro u W' j o hj ho hR hpre
            have hbw : Below (wp.alloc (.cells #[.int .i64 (f : Int), .int .i64 (u0 : Int), .int .i64 xx, .int .i64 xc] 68)).heap.size (wp.alloc (.cells #[.int .i64 (f : Int), .int .i64 (u0 : Int), .int .i64 xx, .int .i64 xc] 68)) W' := bthen (bdr (b0 (wp.alloc (.cells #[.int .i64 (f : Int), .int .i64 (u0 : Int), .int .i64 xx, .int .i64 xc] 68)))) hR
            have x0 := (HXB.out.below hbw).cell 0
            have x1 := (HXB.out.below hbw).cell 1
            simp only [List.getElem?_cons_zero, List.getElem?_cons_succ] at x0 x1
            obtain rfl | rfl | rfl | rfl | rfl | rfl | rfl | rfl : j = 0 ∨ j = 1 ∨ j = 2 ∨ j = 3 ∨ j = 4 ∨ j = 5 ∨ j = 6 ∨ j = 7 := by omega
            · simp at ho
              subst ho
              simp [Region.binds] at hpre
              refine wpOpIn_step rfl (fun K' hK => ?_)
              simp only [Region.wanted]
              have HK := Lib.hid hK
              clear hK
              gi_wp2
              exact HK.out _ _ ⟨Value.func (.func 175) #[] #[.pointer (some ⟨w.heap.size + 1, 0, none⟩)], by simp [upd, undef, *], Below.refl _ _, rfl⟩
            · simp at ho
              subst ho
              simp [Region.binds] at hpre
              refine wpOpIn_step rfl (fun K' hK => ?_)
              simp only [Region.wanted]
              have HK := Lib.hid hK
              clear hK
              gi_wp2
              exact HK.out _ _ ⟨Value.pointer (some ⟨wp.heap.size, 0, none⟩), by simp [upd, undef, *], Below.refl _ _, rfl⟩
            · simp at ho
              subst ho
              simp [Region.binds] at hpre
              refine wpOpIn_step rfl (fun K' hK => ?_)
              simp only [Region.wanted]
              have HK := Lib.hid hK
              clear hK
              gi_wp2
              exact HK.out _ _ ⟨Value.int .i64 (f : Int), by simp [upd, undef, *], Below.refl _ _, rfl⟩
            · simp at ho
              subst ho
              simp [Region.binds] at hpre
              obtain ⟨h3', h4'⟩ := hpre
              refine wpOpIn_step rfl (fun K' hK => ?_)
              simp only [Region.wanted]
              have HK := Lib.hid hK
              clear hK
              gi_wp2_with (gi_at_call 175; (with_reducible refine CallsIn.mono (callsIn_wide.2 (HF.out _ hbw)) ?_); rintro e w1 ⟨rfl, rfl⟩)
              refine HK.out _ _ ⟨Value.int .i64 (a : Int), by simp [upd, undef, Qx.v, Qx.zero, *], Below.refl _ _, rfl⟩
            · simp at ho
              subst ho
              simp [Region.binds] at hpre
              refine wpOpIn_step rfl (fun K' hK => ?_)
              simp only [Region.wanted]
              have HK := Lib.hid hK
              clear hK
              gi_wp2
              exact HK.out _ _ ⟨Value.func (.func 175) #[] #[.pointer (some ⟨w.heap.size + 1, 0, none⟩)], by simp [upd, undef, *], Below.refl _ _, rfl⟩
            · simp at ho
              subst ho
              simp [Region.binds] at hpre
              refine wpOpIn_step rfl (fun K' hK => ?_)
              simp only [Region.wanted]
              have HK := Lib.hid hK
              clear hK
              gi_wp2
              exact HK.out _ _ ⟨Value.pointer (some ⟨wp.heap.size, 1, none⟩), by simp [upd, undef, *], Below.refl _ _, rfl⟩
            · simp at ho
              subst ho
              simp [Region.binds] at hpre
              refine wpOpIn_step rfl (fun K' hK => ?_)
              simp only [Region.wanted]
              have HK := Lib.hid hK
              clear hK
              gi_wp2
              exact HK.out _ _ ⟨Value.int .i64 (u0 : Int), by simp [upd, undef, *], Below.refl _ _, rfl⟩
            · simp at ho
              subst ho
              simp [Region.binds] at hpre
              obtain ⟨h3', h4', _⟩ := hpre
              refine wpOpIn_step rfl (fun K' hK => ?_)
              simp only [Region.wanted]
              have HK := Lib.hid hK
              clear hK
              gi_wp2_with (gi_at_call 175; (with_reducible refine CallsIn.mono (callsIn_wide.2 (HU.out _ hbw)) ?_); rintro e w1 ⟨rfl, rfl⟩)
              refine HK.out _ _ ⟨Value.int .i64 (b : Int), by simp [upd, undef, Qx.v, Qx.zero, *], Below.refl _ _, rfl⟩
          case fin =>
            intro u W' hR hY
            have hbw : Below (wp.alloc (.cells #[.int .i64 (f : Int), .int .i64 (u0 : Int), .int .i64 xx, .int .i64 xc] 68)).heap.size (wp.alloc (.cells #[.int .i64 (f : Int), .int .i64 (u0 : Int), .int .i64 xx, .int .i64 xc] 68)) W' := bthen (bdr (b0 (wp.alloc (.cells #[.int .i64 (f : Int), .int .i64 (u0 : Int), .int .i64 xx, .int .i64 xc] 68)))) hR
            have g3 : u 3 = .int .i64 (a : Int) := hY 3 (by omega)
            have g7 : u 7 = .int .i64 (b : Int) := hY 7 (by omega)
            have HBW := Lib.hid hbw
            clear hY hR hbw
            refine wpTail_step (i' := 9) (c := 1) rfl ?_
            rw [g3, g7]
            refine wpOpIn_step rfl (fun K' hK => ?_)
            simp only [Region.wanted, List.getElem_toArray, List.getElem_cons_succ, List.getElem_cons_zero]
            have HK := Lib.hid hK
            clear hK
            gi_wp2
            refine HK.out _ _ ?_
            clear HK
            refine wpTail_step (i' := 10) (c := 0) rfl ?_
            refine wpOpIn_step rfl (fun K' hK => ?_)
            simp only [Region.wanted, List.getElem_toArray, List.getElem_cons_succ, List.getElem_cons_zero]
            have HK := Lib.hid hK
            clear hK
            gi_wp2
            refine HK.out _ _ (wpTail_end ?_)
            clear HK
            by_cases hab : a = b
            · subst hab
              go_wp2
              go_roundg (ms.length - (k + 1))
              case rel => exact ⟨k + 1, qs, rfl, val_int (by omega), by omega, Lib.hid (by rw [HJN.out]; simp), HA.out.later HBW.out⟩
              case measure => omega
            · have hx4 := (HA.out.later HBW.out).box.cell 0
              simp only [List.getElem?_cons_zero] at hx4
              have hlw := HA.out.later HBW.out
              have hql := HQB.out.1
              by_cases hlt2 : a < b
              · have hcb := own_cell hlw.own (j := b) (by unfold i64s; rw [List.length_map, intsL_length, hql]; omega)
                have hfb := own_frozen hlw.own b
                have hlw' := Lib.hid (hlw.put hql.symm hgr1 b a)
                have hsg := hlw.size
                clear hlw
                have HAB := Lib.hid hab
                have HM := Lib.hid (show max a b = b ∧ min a b = a by omega)
                clear hab
                go_wp2
                go_roundg (ms.length - (k + 1))
                case rel => exact ⟨k + 1, qs.set b a, rfl, val_int (by omega), by omega, Lib.hid (by rw [HJN.out, if_neg HAB.out, HM.out.1, HM.out.2]), hlw'⟩
                case measure => omega
              · have hcb := own_cell hlw.own (j := a) (by unfold i64s; rw [List.length_map, intsL_length, hql]; omega)
                have hfb := own_frozen hlw.own a
                have hlw' := Lib.hid (hlw.put hql.symm hgr1 a b)
                have hsg := hlw.size
                clear hlw
                have HAB := Lib.hid hab
                have HM := Lib.hid (show max a b = a ∧ min a b = b by omega)
                have hlt3 : b < a := by omega
                clear hab
                go_wp2
                go_roundg (ms.length - (k + 1))
                case rel => exact ⟨k + 1, qs.set a b, rfl, val_int (by omega), by omega, Lib.hid (by rw [HJN.out, if_neg HAB.out, HM.out.1, HM.out.2]), hlw'⟩
                case measure => omega
        · obtain rfl : k = ms.length := by omega
          have hx4 := HJ.out.box.cell 0
          simp only [List.getElem?_cons_zero] at hx4
          have HQF := Lib.hid (show qs = ms.foldl joinS (List.range n) by rw [HQ.out, List.take_length])
          go_wp2
          go_loopg [65] n (fun gh iv wr => ∃ (k : Nat) (rs : List Nat), gh = n - k ∧ iv = .int .i64 (k : Int) ∧ k ≤ n ∧ Hid (rs = (List.range k).foldl flatS qs) ∧ Hid (LstI w.heap.size W2.heap.size W2 wr (w.heap.size + 1) (.slice (some ⟨gr, 0, none⟩) n cv) rs))
          case atStart => exact ⟨0, qs, rfl, rfl, Nat.zero_le _, Lib.hid rfl, HJ⟩
          case round =>
            obtain ⟨k, rs, rfl, rfl, hk, HR, HK3⟩ := hrel
            obtain ⟨wq, rfl⟩ : ∃ wq : World, wq = wr := ⟨_, rfl⟩
            have HRB := Lib.hid (show rs.length = n ∧ dnL rs by
              have := flats_both k qs HQB.out.2
              rw [HR.out]; exact ⟨by rw [this.1]; exact HQB.out.1, this.2⟩)
            by_cases hlt : k < n
            · have HF := Lib.hid (fun W' (hw : Below wq.heap.size wq W') => find_c (w := W') (g := w.heap.size + 1) (HK3.out.later hw).vi (by simpa using (HK3.out.later hw).box.cell 0) HRB.out.2 k (by rw [HRB.out.1]; omega))
              obtain ⟨a, ha⟩ : ∃ a, a = root rs k := ⟨_, rfl⟩
              rw [← ha] at HF
              have HAA := Lib.hid ha
              clear ha
              go_wp2
              refine (wpIn_wide (n := 10)).1 ?_
              refine wpIn_region_Y (by kernel_rfl) (by kernel_rfl) 5 2 rfl (by kernel_rfl) (fun u => { tmps := List.toArray ((Value.agg #[Value.int IntKind.i64 ↑n, Value.slice A1 l1 c1]) :: (Value.slice A2 l2 c2) :: (Value.pointer (some { block := w.heap.size, off := 0 })) :: undef :: (Value.pointer (some { block := w.heap.size + 1, off := 0 })) :: (Value.int IntKind.i64 0) :: (Value.pointer (some { block := w1.heap.size, off := 0 })) :: (Value.slice A' l' c') :: u8 :: (Value.func (Fn.func 175) #[] #[Value.pointer (some { block := w.heap.size + 1, off := 0 })]) :: undef :: u11 :: u12 :: u13 :: (Value.int IntKind.i64 ↑k) :: (Value.tuple #[Value.agg #[Value.int IntKind.i64 ↑n, Value.slice A ms.length c], Value.slice A' l' c', Value.int IntKind.i64 0]) :: (Value.agg #[Value.int IntKind.i64 ↑n, Value.slice A1 l1 c1]) :: (Value.slice A2 l2 c2) :: (Value.tuple #[Value.agg #[Value.int IntKind.i64 ↑n, Value.slice A ms.length c], Value.slice A' l' c', Value.int IntKind.i64 0]) :: (Value.agg #[Value.int IntKind.i64 ↑n, Value.slice A ms.length c]) :: (Value.slice A' l' c') :: (Value.int IntKind.i64 0) :: (Value.int IntKind.i64 0) :: (Value.bool false) :: undef :: (Value.pointer (some { block := w.heap.size, off := 0 })) :: (Value.int IntKind.i64 ↑n) :: (Value.int IntKind.i64 ↑n) :: (Value.bool false) :: u29 :: u30 :: u31 :: u32 :: u33 :: u34 :: (Value.func (Fn.func 175) #[] #[Value.pointer (some { block := w.heap.size + 1, off := 0 })]) :: (Value.pointer (some { block := w1.heap.size, off := 1 })) :: (Value.slice A ms.length c) :: (Value.int IntKind.i64 ↑ms.length) :: (Value.int IntKind.i64 ↑ms.length) :: (Value.bool false) :: u41 :: u42 :: u43 :: u44 :: u45 :: u46 :: u47 :: u48 :: u49 :: u50 :: u51 :: u52 :: u53 :: u54 :: u55 :: u56 :: u57 :: u58 :: u59 :: u60 :: u61 :: u62 :: (Value.slice (some { block := gr, off := 0 }) n cv) :: (Value.int IntKind.i64 ↑n) :: (Value.int IntKind.i64 ↑k) :: (Value.bool true) :: (Value.int IntKind.i64 ↑k) :: (u 0) :: (u 1) :: (u 2) :: (u 3) :: (u 4) :: u73 :: u74 :: undef :: []), defers := [] }) (fun k => #[u68, u69, u70, u71, u72].getD k undef) rfl (fun W1 W2 => Below W1.heap.size W1 W2) (fun _ => Below.refl _ _) (fun h1 h2 => bthen h1 h2)
                (fun j9 v W1 => match j9 with
                  | 0 => v = Value.slice (some ⟨gr, 0, none⟩) n cv
                  | 1 => v = Value.int .i64 (k : Int)
                  | 2 => v = Value.func (.func 175) #[] #[.pointer (some ⟨w.heap.size + 1, 0, none⟩)]
                  | 3 => v = Value.int .i64 (k : Int)
                  | 4 => v = Value.int .i64 (a : Int)
                  | _ => True) ?hY ?step ?fin
              case hY =>
                intro k v W1 W2 h hb
                match k, h with
                | 0, h => exact h
                | 1, h => exact h
                | 2, h => exact h
                | 3, h => exact h
                | 4, h => exact h
                | k + 5, h => trivial
              case step =>
                intro u W' j o hj ho hR hpre
                have hbw : Below wq.heap.size wq W' := bthen (bdr (b0 wq)) hR
                have x0 := (HK3.out.later hbw).box.cell 0
                simp only [List.getElem?_cons_zero] at x0
                obtain rfl | rfl | rfl | rfl | rfl : j = 0 ∨ j = 1 ∨ j = 2 ∨ j = 3 ∨ j = 4 := by omega
                · simp at ho
                  subst ho
                  simp [Region.binds] at hpre
                  refine wpOpIn_step rfl (fun K' hK => ?_)
                  simp only [Region.wanted]
                  have HK := Lib.hid hK
                  clear hK
                  gi_wp2
                  exact HK.out _ _ ⟨Value.slice (some ⟨gr, 0, none⟩) n cv, by simp [upd, undef, *], Below.refl _ _, rfl⟩
                · simp at ho
                  subst ho
                  simp [Region.binds] at hpre
                  refine wpOpIn_step rfl (fun K' hK => ?_)
                  simp only [Region.wanted]
                  have HK := Lib.hid hK
                  clear hK
                  gi_wp2
                  exact HK.out _ _ ⟨Value.int .i64 (k : Int), by simp [upd, undef, *], Below.refl _ _, rfl⟩
                · simp at ho
                  subst ho
                  simp [Region.binds] at hpre
                  refine wpOpIn_step rfl (fun K' hK => ?_)
                  simp only [Region.wanted]
                  have HK := Lib.hid hK
                  clear hK
                  gi_wp2
                  exact HK.out _ _ ⟨Value.func (.func 175) #[] #[.pointer (some ⟨w.heap.size + 1, 0, none⟩)], by simp [upd, undef, *], Below.refl _ _, rfl⟩
                · simp at ho
                  subst ho
                  simp [Region.binds] at hpre
                  refine wpOpIn_step rfl (fun K' hK => ?_)
                  simp only [Region.wanted]
                  have HK := Lib.hid hK
                  clear hK
                  gi_wp2
                  exact HK.out _ _ ⟨Value.int .i64 (k : Int), by simp [upd, undef, *], Below.refl _ _, rfl⟩
                · simp at ho
                  subst ho
                  simp [Region.binds] at hpre
                  obtain ⟨h3', h4'⟩ := hpre
                  refine wpOpIn_step rfl (fun K' hK => ?_)
                  simp only [Region.wanted]
                  have HK := Lib.hid hK
                  clear hK
                  gi_wp2_with (gi_at_call 175; (with_reducible refine CallsIn.mono (callsIn_wide.2 (HF.out _ hbw)) ?_); rintro e w1 ⟨rfl, rfl⟩)
                  refine HK.out _ _ ⟨Value.int .i64 (a : Int), by simp [upd, undef, Qx.v, Qx.zero, *], Below.refl _ _, rfl⟩
              case fin =>
                intro u W' hR hY
                have hbw : Below wq.heap.size wq W' := bthen (bdr (b0 wq)) hR
                have g0 : u 0 = Value.slice (some ⟨gr, 0, none⟩) n cv := hY 0 (by omega)
                have g1 : u 1 = Value.int .i64 (k : Int) := hY 1 (by omega)
                have g4 : u 4 = Value.int .i64 (a : Int) := hY 4 (by omega)
                have hlw := HK3.out.later hbw
                have hql := HRB.out.1
                have hcb := own_cell hlw.own (j := k) (by unfold i64s; rw [List.length_map, intsL_length, hql]; omega)
                have hfb := own_frozen hlw.own k
                have hlw' := Lib.hid (hlw.put hql.symm hgr1 k a)
                have hsg := hlw.size
                clear hlw hY hR hbw
                refine wpTail_step (i' := 6) (c := 1) rfl ?_
                rw [g0, g1, g4]
                refine wpOpIn_step rfl (fun K' hK => ?_)
                simp only [Region.wanted, List.getElem_toArray, List.getElem_cons_succ, List.getElem_cons_zero]
                have HK := Lib.hid hK
                clear hK
                gi_wp2
                refine HK.out _ _ ?_
                clear HK
                refine wpTail_step (i' := 7) (c := 0) rfl ?_
                refine wpOpIn_step rfl (fun K' hK => ?_)
                simp only [Region.wanted, List.getElem_toArray, List.getElem_cons_succ, List.getElem_cons_zero]
                have HK := Lib.hid hK
                clear hK
                gi_wp2
                refine HK.out _ _ (wpTail_end ?_)
                clear HK
                go_wp2
                go_roundg (n - (k + 1))
                case rel => exact ⟨k + 1, rs.set k a, rfl, val_int (by omega), by omega, Lib.hid (by rw [List.range_succ, List.foldl_append, ← HR.out, HAA.out]; rfl), hlw'⟩
                case measure => omega
            · obtain rfl : n = k := by omega
              have hx5 := HK3.out.box.cell 0
              have hf5 := HK3.out.box.frozen 0
              simp only [List.getElem?_cons_zero] at hx5
              have hend := HK3.out.box.set 0 (.slice (some ⟨gr, 0, none⟩) n cv)
              have hz0 := hend.cell 0
              simp only [List.set_cons_zero, List.getElem?_cons_zero] at hz0
              have HZ0 := Lib.hid hz0
              have hown := ownsRow_setCell_other HK3.out.own (a := ⟨w.heap.size + 1, 0, none⟩) (fun e => own_type HK3.out.own HK3.out.box (by decide) e) (.slice (some ⟨gr, 0, none⟩) n cv)
              have HOWN := Lib.hid hown
              clear hown hend hz0
              go_wp2
              rw [Exit.noGoto_ret]
              have hz0 := HZ0.out
              refine bodyPost_ret (v := .tuple #[.slice (some ⟨gr, 0, none⟩) n cv, .int .i64 0]) ?_ rfl ⟨_, n, cv, rfl, (HB2.out.trans HK3.out.below).setCell (by simp) _, ?_⟩
              · simp [results, Tryz.results102, go_sem, hz0]
              · have h9 := own_sl HOWN.out
                have e9 : rs = standsS n ms := by unfold standsS; rw [HR.out, HQF.out]
                unfold Vi
                rw [intsL_length, ← e9]
                exact h9
end Go.Proofs.YtdkfdamihnieiaaGreat
end
section
/- slices.Index, slices.Contains; node.Rent; right.Check's closure. -/
open Go Go.RowKit Go.Shelf
namespace Go.Proofs.YtdkfdamihnieiaaGreat
open Go.Proofs
/-- The first place of z, or -1. -/
def idxS (z : Int) : Nat → List Int → Int
  | _, [] => -1
  | k, x :: r => if z = x then (k : Int) else idxS z (k + 1) r
theorem idxS_ge {z : Int} {k : Nat} {l : List Int} : 0 ≤ idxS z k l ↔ z ∈ l := by
  induction l generalizing k with
  | nil => simp [idxS]
  | cons x r ih =>
    unfold idxS
    by_cases h : z = x
    · rw [if_pos h]; simp [h]
    · rw [if_neg h, ih]; simp [h]
set_option maxHeartbeats 1000000 in
theorem index_c {w v xs} (h : Vi w v xs) (z : Int) : Calls Tryz.prog 103 #[v, .int .i64 z] w fun e w' => e = .returned (.int .i64 (idxS z 0 xs)) ∧ w' = w := by
  obtain ⟨A, l, c, rfl⟩ := h.shape
  obtain rfl := h.len
  have hm := h.lim
  go_enter Tryz.func103, Tryz.ntmps103
  go_wp2
  go_loopw [8] (fun iv wr => ∃ k : Nat, k ≤ xs.length ∧ iv = .int .i64 (k : Int) ∧ wr = w ∧ Hid (idxS z 0 xs = idxS z k (xs.drop k))) (fun iv _ => xs.length - (intOf iv).toNat)
  case atStart => exact ⟨0, Nat.zero_le _, rfl, rfl, Lib.hid (by simp)⟩
  case round =>
    obtain ⟨k, hk, rfl, rfl, HR⟩ := hrel
    by_cases hlt : k < xs.length
    · obtain ⟨b, o, rfl, hc⟩ := h.at (by omega)
      have c1 := hc k hlt
      have hd : xs.drop k = xs.getD k 0 :: xs.drop (k + 1) := by
        rw [List.drop_eq_getElem_cons hlt, List.getD_eq_getElem?_getD, List.getElem?_eq_getElem hlt]; rfl
      obtain ⟨y, hy⟩ : ∃ y, y = xs.getD k 0 := ⟨_, rfl⟩
      rw [← hy] at c1 hd
      have hr := HR.out
      rw [hd] at hr
      have HR2 := Lib.hid hr
      clear hc hd hr hy HR
      by_cases hzy : z = y
      · have hf : idxS z 0 xs = (k : Int) := by rw [HR2.out]; unfold idxS; rw [if_pos hzy]
        have HF := Lib.hid hf
        clear hf
        go_wp2
        go_ret
        exact ⟨by rw [HF.out]; rfl, rfl⟩
      · have hf : idxS z 0 xs = idxS z (k + 1) (xs.drop (k + 1)) := by rw [HR2.out]; show (if z = y then _ else _) = _; rw [if_neg hzy]
        have HF := Lib.hid hf
        clear hf
        go_wp2
        exact ⟨⟨k + 1, by omega, val_int (by omega), trivial, HF⟩, by simp [intOf]; omega⟩
    · obtain rfl : k = xs.length := by omega
      have hr := HR.out
      rw [List.drop_length] at hr
      have HR2 := Lib.hid hr
      clear hr HR
      go_wp2
      go_ret
      exact ⟨by rw [HR2.out]; rfl, rfl⟩
theorem contains_c {w v xs} (h : Vi w v xs) (z : Int) : Calls Tryz.prog 109 #[v, .int .i64 z] w fun e w' => e = .returned (.bool (decide (z ∈ xs))) ∧ w' = w := by
  have HX := Lib.hid (index_c h z)
  obtain ⟨A, l, c, rfl⟩ := h.shape
  obtain ⟨q, hq⟩ : ∃ q, q = idxS z 0 xs := ⟨_, rfl⟩
  have hz : decide (z ∈ xs) = decide (q ≥ 0) := by rw [decide_eq_decide, hq]; exact idxS_ge.symm
  rw [← hq] at HX
  rw [hz]
  clear hq hz h
  go_enter Tryz.func109, Tryz.ntmps109
  go_wp2_with (go_at_call 103; (with_reducible refine Calls.mono HX.out ?_); rintro e w1 ⟨rfl, rfl⟩)
  go_ret
  exact ⟨rfl, rfl⟩
set_option maxHeartbeats 1000000 in
theorem rent_c {n0 B : Nat} {w : World} {va vb : Value} {qa qb : List Rat} (ha : Vq n0 (rq B) w va qa) (hb : Vq n0 (rq B) w vb qb) (hB0 : 0 < B) (hB : B ≤ 100000000) (hS : max qa.length qb.length * (2 * B + 1) + 1 ≤ 400000000) :
    Calls Tryz.prog 72 #[va, vb] w (RetQ w (fun _ => True) (-(dotq qa qb))) := by
  have hE3 : ∀ {W v q}, rq B W v q → qB q B := fun h => isQ.size h hB0
  have hsz : qB (dotq qa qb) (max qa.length qb.length * (2 * B + 1) + 1) := by
    obtain ⟨f, hf⟩ := ha.view (rq_ratl hB0)
    obtain ⟨g, hg⟩ := hb.view (rq_ratl hB0)
    have := dotL_size (R := fun k => qa.getD k 0 * qb.getD k 0) (B := 2 * B) (fun k => (qB_mul (hE3 (hf.el k)) (hE3 (hg.el k))).mono (by omega)) (List.range (max qa.length qb.length))
    rw [List.length_range] at this
    exact this
  have HD := Lib.hid (dot_c (ha.below (rq_stable B) (bal (b0 w) (o := .cells #[.bool false, .slice none 0 0, .bool false, .slice none 0 0] 44))) (hb.below (rq_stable B) (bal (b0 w) (o := .cells #[.bool false, .slice none 0 0, .bool false, .slice none 0 0] 44))) hB0 hB hS)
  have HS := Lib.hid hsz
  obtain ⟨A1, l1, c1, rfl⟩ := ha.shape
  obtain ⟨A2, l2, c2, rfl⟩ := hb.shape
  clear ha hb hsz
  go_enter Tryz.func72, Tryz.ntmps72
  go_wp2_with (first
    | (go_at_call 47; (with_reducible refine Calls.mono HD.out ?_); rintro e w1 ⟨n1, A3, l3, c3, m1, D3, e3, g3, rfl, hb1, hr1⟩; have HN := Lib.hid (neg_q (isQc.q hr1 HS.out) (by omega) hS); have Q1 := Lib.hid (bthen (bal (b0 w)) hb1); have HB1 := Lib.hid hb1; have s1 := hb1.size; simp at s1; clear hb1 hr1)
    | (go_at_call 67; (with_reducible refine Calls.mono HN.out ?_); rintro e w2 ⟨n2, A4, l4, c4, m2, D4, e4, g4, rfl, hb2, hr2⟩; have Q2 := Lib.hid (bthen Q1.out hb2); have HR2 := Lib.hid hr2; have s2 := hb2.size; have B2 := Bx.step (Bx.step (Bx.refl (n := w.heap.size + 1) (w.alloc (Obj.cells #[.bool false, .slice none 0 0, .bool false, .slice none 0 0] 44)) (by simp)) HB1.out) hb2; have k2 := B2.cell; have f2 := B2.frozen))
  refine bodyPost_ret (v := .agg #[.bool n2, .slice A4 l4 c4, .bool m2, .slice D4 e4 g4]) ?_ rfl ?_
  · simp [results, Tryz.results72, go_sem, k2]
  · obtain ⟨a1, a2, a3, a4, a5, a6, a7, a8, h1, h2, h3⟩ := RetQ.set4 (W := w1) Q2.out HR2.out (Nat.le_refl _) (by omega)
    exact ⟨a1, a2, a3, a4, a5, a6, a7, a8, h1, h2, h3.any⟩
end Go.Proofs.YtdkfdamihnieiaaGreat
end
