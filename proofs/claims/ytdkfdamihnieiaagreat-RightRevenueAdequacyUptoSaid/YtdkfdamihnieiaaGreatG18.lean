/- Package right: Pays. -/
import Derived.Test.YtdkfdamihnieiaaGreatG17
import Derived.Test.YtdkfdamihnieiaaGreatG11
set_option linter.unusedSimpArgs false
set_option linter.unusedVariables false
section
open Go Go.RowKit Go.Shelf
namespace Go.Proofs.YtdkfdamihnieiaaGreat
open Go.Proofs
attribute [local go_sem] Oper.semAt_some wide_fn wide_depth
/-- From W1 to W2: what lies below is as it was; every number stands. -/
structure BR (N0 : Nat) (W1 W2 : World) : Prop where
  below : Below N0 W1 W2
  size : W1.heap.size ≤ W2.heap.size
  el : ∀ v q, cq W1 v q → cq W2 v q
theorem BR.refl (N0 : Nat) (W : World) : BR N0 W W := ⟨Below.refl _ _, Nat.le_refl _, fun _ _ h => h⟩
theorem BR.trans {N0 : Nat} {A B C : World} (h : BR N0 A B) (k : BR N0 B C) : BR N0 A C := ⟨h.below.trans k.below, Nat.le_trans h.size k.size, fun v q x => k.el v q (h.el v q x)⟩
theorem BR.of {N0 : Nat} {W1 W2 : World} (h : Below W1.heap.size W1 W2) (hN : N0 ≤ W1.heap.size) : BR N0 W1 W2 := ⟨h.mono hN, h.size, fun _ _ x => cq_stable.below x h⟩
abbrev Qx.sl (p : Qx) : Prop := (∃ A l c, p.s = .slice A l c) ∧ (∃ A l c, p.t = .slice A l c)
theorem BR.st4 {N0 : Nat} {W : World} {g : Nat} {p z : Qx} (hg : Blk W g 44 p.cs) (hs : p.sl) (hN : N0 ≤ g) : BR N0 W (YtdkfdamihnieiaaGreat.st4 W g 0 z) := ⟨st4_belowB (Below.refl _ _) hN, Nat.le_of_eq (st4_size _ _ _ _).symm, fun _ _ x => st4_el0 cq_stable hg hs x⟩
/-- A box that the region makes (its operation i) and fills (its operation j). -/
def Gbox (N0 i j : Nat) (val : Rat) (D : Nat → Prop) (u : Nat → Value) (W : World) : Prop := D i → ∃ (g : Nat) (p : Qx), u i = .pointer (some ⟨g, 0, none⟩) ∧ N0 ≤ g ∧ Blk W g 44 p.cs ∧ p.sl ∧ (D j → cq W p.v val)
theorem Gbox.gen {N0 i j : Nat} {val : Rat} {D : Nat → Prop} {u : Nat → Value} {W W2 : World} {J : Nat} {v : Value} (h : Gbox N0 i j val D u W) (hb : Below W.heap.size W W2) (h1 : J ≠ i) (h2 : J ≠ j) : Gbox N0 i j val (fun k => k = J ∨ D k) (upd u J v) W2 := by
  intro hD
  rcases hD with e | hD
  · exact absurd e.symm h1
  obtain ⟨g, p, e, hg, hB, hs, hv⟩ := h hD
  refine ⟨g, p, by simpa [upd, Ne.symm h1] using e, hg, hB.below hb, hs, fun hj => ?_⟩
  rcases hj with e | hj
  · exact absurd e.symm h2
  exact cq_stable.below (hv hj) hb
theorem Gbox.new {N0 i j : Nat} {val : Rat} {D : Nat → Prop} {u : Nat → Value} {W : World} (hN : N0 ≤ W.heap.size) (hj : ¬ D j) (hij : i ≠ j := by omega) : Gbox N0 i j val (fun k => k = i ∨ D k) (upd u i (.pointer (some ⟨W.heap.size, 0, none⟩))) (W.alloc (.cells #[.bool false, .slice none 0 0, .bool false, .slice none 0 0] 44)) := by
  intro _
  refine ⟨W.heap.size, Qx.zero, by simp [upd], hN, Blk.new W Qx.zero.cs 44 rfl, Qx.zero_sl, fun h => ?_⟩
  rcases h with e | h
  · exact absurd e.symm hij
  · exact absurd h hj
theorem Gbox.store {N0 i j : Nat} {val : Rat} {D : Nat → Prop} {u : Nat → Value} {W : World} {g : Nat} {p z : Qx} {v : Value} (e : u i = .pointer (some ⟨g, 0, none⟩)) (hN : N0 ≤ g) (hg : Blk W g 44 p.cs) (hs : p.sl) (hz : cq W z.v val) (hij : i ≠ j) : Gbox N0 i j val (fun k => k = j ∨ D k) (upd u j v) (YtdkfdamihnieiaaGreat.st4 W g 0 z) := by
  intro _
  exact ⟨g, z, by simpa [upd, hij] using e, hN, st4_blk0 hg, isQc.slices hz, fun _ => st4_el0 cq_stable hg hs hz⟩
/-- Filled up to k. -/
def fillL (f : Nat → Rat) (n k : Nat) : List Rat := (List.range n).map fun j => if j < k then f j else 0
theorem fillL_length (f : Nat → Rat) (n k : Nat) : (fillL f n k).length = n := by simp [fillL]
theorem fillL_zero (f : Nat → Rat) (n : Nat) : fillL f n 0 = List.replicate n 0 := by
  unfold fillL
  refine List.ext_getElem (by simp) (fun j h1 h2 => by simp)
theorem fillL_all (f : Nat → Rat) (n : Nat) : fillL f n n = (List.range n).map f := by
  unfold fillL
  refine List.map_congr_left (fun j hj => ?_)
  rw [if_pos (List.mem_range.1 hj)]
theorem fillL_set (f : Nat → Rat) (n k : Nat) : (fillL f n k).set k (f k) = fillL f n (k + 1) := by
  refine List.ext_getElem (by simp [fillL]) (fun j h1 h2 => ?_)
  rw [List.getElem_set]
  simp only [fillL, List.getElem_map, List.getElem_range]
  by_cases h : k = j
  · subst h; simp
  · rw [if_neg h]
    by_cases h3 : j < k
    · rw [if_pos h3, if_pos (by omega)]
    · rw [if_neg h3, if_neg (by omega)]
def inr (n : Nat) (x : Rt) : Bool := isB n x.f && isB n x.t
def payF (ps : List Rat) (rs : List Rt) (j : Nat) : Rat := ((rs.getD j Rt.zero).q : Rat) * (ps.getD (rs.getD j Rt.zero).t.toNat 0 - ps.getD (rs.getD j Rt.zero).f.toNat 0)
def payL (ps : List Rat) (rs : List Rt) : List Rat := (List.range rs.length).map (payF ps rs)
set_option maxRecDepth 100000 in
set_option maxHeartbeats 8000000 in
theorem pays_c {n0 B : Nat} {w : World} {v vp : Value} {rs : List Rt} {ps : List Rat} (h : Vr w v rs) (hp : Vq n0 (rq B) w vp ps) (hB2 : 2 ≤ B) (hB : B ≤ 100000000) (hr : ∀ x ∈ rs, -9223372036854775808 ≤ x.q ∧ x.q ≤ 9223372036854775807) (hl : rs.length ≤ 10000000) :
    Calls Tryz.prog 43 #[v, vp] w fun e w' => Below w.heap.size w w' ∧ (rs.all (inr ps.length) = true → ∃ A l c, e = .returned (.tuple #[.slice A l c, .int .i64 0]) ∧ Vq n0 cq w' (.slice A l c) (payL ps rs)) ∧ (rs.all (inr ps.length) = false → e = .returned (.tuple #[.slice none 0 0, .int .i64 1])) := by
  obtain ⟨A, l, c, rfl⟩ := h.shape
  obtain rfl := h.len
  have HP := Lib.hid hp
  obtain ⟨Ap, lp, cp, rfl⟩ := hp.shape
  have hlp0 := hp.len_eq
  have hlp : lp ≤ 9223372036854775807 := by have h1 := hp.rv.cap; have h2 := hp.rv.lim; unfold maxLen at h2; omega
  have HLP := Lib.hid hlp0
  obtain ⟨W1, mk, H0, hlt1⟩ := make_R w rs.length (by omega)
  have HR := Lib.hid hr
  clear hr hp hlp0
  refine (callsIn_wide (n := 10)).1 ?_
  refine callsIn_of_wp Tryz.func43 rfl trivial ?_ rfl
  simp only [Tryz.ntmps43, List.size_toArray, List.length_cons, List.length_nil, Nat.reduceAdd, Nat.reduceSub, Array.replicate_succ, Array.replicate_zero, List.push_toArray, List.append_toArray, List.nil_append, List.cons_append]
  gi_wp2
  clear mk
  gi_loopw [4, 5, 16] (fun sv ev iv wr => ∃ (k : Nat) (l' : List Qx), k ≤ rs.length ∧ sv = .slice none 0 0 ∧ ev = .int .i64 0 ∧ iv = .int .i64 (k : Int) ∧ Hid (MadeR w wr w.heap.size (fillL (payF ps rs) rs.length k) l') ∧ Hid (∀ j, j < k → inr ps.length (rs.getD j Rt.zero) = true)) (fun _ _ iv _ => rs.length - (intOf iv).toNat)
  case atStart => exact ⟨0, _, by omega, rfl, rfl, rfl, by rw [fillL_zero]; exact H0, Lib.hid (fun j hj => by omega)⟩
  case round =>
    obtain ⟨k, l', hk, rfl, rfl, rfl, HM, HI⟩ := hrel
    clear H0
    by_cases hlt : k < rs.length
    · obtain ⟨br, or, rfl, hc⟩ := (h.below HM.out.below).at (by omega)
      obtain ⟨d0, d1, d2⟩ := hc k hlt
      obtain ⟨x, hx⟩ : ∃ x, x = rs.getD k Rt.zero := ⟨_, rfl⟩
      obtain ⟨h1, h2⟩ := HR.out (rs.getD k Rt.zero) (by rw [List.getD_eq_getElem?_getD, List.getElem?_eq_getElem hlt]; exact List.getElem_mem hlt)
      rw [← hx] at d0 d1 d2 h1 h2
      have HX := Lib.hid hx
      clear hx hc
      obtain ⟨wo, rfl⟩ : ∃ wo : World, wo = wr := ⟨_, rfl⟩
      have hXc := Blk.new wo [.int .i64 x.f, .int .i64 x.t, .int .i64 x.q] 92 rfl
      have HXC := Lib.hid hXc
      clear hXc
      have hsw := HM.out.blk.lt
      have hll : k < l'.length := by rw [HM.out.len, fillL_length]; exact hlt
      by_cases hin : inr ps.length x = true
      · have hin2 := hin
        unfold inr isB at hin2
        simp only [Bool.and_eq_true, decide_eq_true_eq] at hin2
        obtain ⟨⟨hf0, hf1'⟩, ht0, ht1'⟩ := hin2
        have hf1 : x.f.toNat < ps.length := by omega
        have ht1 : x.t.toNat < ps.length := by omega
        have HIN := Lib.hid hin
        clear hin
        gi_wp2
        refine wpIn_region_G (by kernel_rfl) (by kernel_rfl) 14 1 rfl (by kernel_rfl) (fun u => { tmps := #[.slice (some ⟨br, or, none⟩) rs.length c, .slice Ap lp cp, undef, undef, .slice none 0 0, .int .i64 0, .slice (some ⟨w.heap.size, 0, none⟩) rs.length rs.length, .int .i64 (k : Int), .pointer (some ⟨wo.heap.size, 0, none⟩), u 12, u 14, .slice (some ⟨br, or, none⟩) rs.length c, .int .i64 (rs.length : Int), .slice (some ⟨w.heap.size, 0, none⟩) rs.length rs.length, .slice (some ⟨br, or, none⟩) rs.length c, .int .i64 (rs.length : Int), .int .i64 (k : Int), .bool true, .int .i64 (k : Int), .pointer (some ⟨br, or + k * 3, none⟩), .agg #[.int .i64 x.f, .int .i64 x.t, .int .i64 x.q], u 9, u 0, u 1, u 2, u 3, u 4, u 5, u 6, u 7, u 8, u 10, u 11, u33, u34, u35, u36, u37, u38, u39, u40, undef], defers := [] }) (fun k => #[u22, u23, u24, u25, u26, u27, u28, u29, u30, u21, u31, u32, u9, undef, u10].getD k undef) rfl (BR ((wo.alloc (Obj.cells #[.int .i64 x.f, .int .i64 x.t, .int .i64 x.q] 92)).heap.size)) (BR.refl _) BR.trans
          (fun j9 v W1 => match j9 with
            | 0 => v = .slice Ap lp cp
            | 1 => v = .pointer (some ⟨wo.heap.size, 0, none⟩)
            | 2 => v = .int .i64 x.f
            | 3 => v = .pointer (some ⟨wo.heap.size, 1, none⟩)
            | 4 => v = .int .i64 x.t
            | 5 => v = .pointer (some ⟨wo.heap.size, 2, none⟩)
            | 6 => v = .int .i64 x.q
            | 7 => ∃ p : Qx, v = p.v ∧ cq W1 p.v ((x.q : Rat))
            | 8 => ∃ p : Qx, v = .tuple #[p.v, .int .i64 0] ∧ cq W1 p.v ((x.q : Rat) * (ps.getD x.t.toNat 0 - ps.getD x.f.toNat 0))
            | 9 => ∃ p : Qx, v = .tuple #[p.v, .int .i64 0] ∧ cq W1 p.v ((x.q : Rat) * (ps.getD x.t.toNat 0 - ps.getD x.f.toNat 0))
            | 10 => ∃ p : Qx, v = p.v ∧ cq W1 p.v ((x.q : Rat) * (ps.getD x.t.toNat 0 - ps.getD x.f.toNat 0))
            | 11 => v = .int .i64 0
            | _ => True) ?hY (Gbox ((wo.alloc (Obj.cells #[.int .i64 x.f, .int .i64 x.t, .int .i64 x.q] 92)).heap.size) 12 13 ((x.q : Rat) * (ps.getD x.t.toNat 0 - ps.getD x.f.toNat 0))) (fun h => h.elim) ?step ?fin
        case hY =>
          intro k v W1 W2 h hb
          match k, h with
          | 0, h => exact h
          | 1, h => exact h
          | 2, h => exact h
          | 3, h => exact h
          | 4, h => exact h
          | 5, h => exact h
          | 6, h => exact h
          | 7, ⟨p, e, h⟩ => exact ⟨p, e, hb.el _ _ h⟩
          | 8, ⟨p, e, h⟩ => exact ⟨p, e, hb.el _ _ h⟩
          | 9, ⟨p, e, h⟩ => exact ⟨p, e, hb.el _ _ h⟩
          | 10, ⟨p, e, h⟩ => exact ⟨p, e, hb.el _ _ h⟩
          | 11, h => exact h
          | k + 12, h => trivial
        case step =>
          intro D u W' j o hj ho hnD hcl hpre hR hG
          have hbw : Below (wo.alloc (Obj.cells #[.int .i64 x.f, .int .i64 x.t, .int .i64 x.q] 92)).heap.size (wo.alloc (Obj.cells #[.int .i64 x.f, .int .i64 x.t, .int .i64 x.q] 92)) W' := (bdr (b0 (wo.alloc (Obj.cells #[.int .i64 x.f, .int .i64 x.t, .int .i64 x.q] 92)))).trans hR.below
          have hbo : Below wo.heap.size wo W' := (bal (b0 wo)).trans (hbw.mono (by simp))
          have hx := HXC.out.below hbw
          have x0 := hx.cell 0
          have x1 := hx.cell 1
          have x2 := hx.cell 2
          simp only [List.getElem?_cons_zero, List.getElem?_cons_succ] at x0 x1 x2
          have hszw : (wo.alloc (Obj.cells #[.int .i64 x.f, .int .i64 x.t, .int .i64 x.q] 92)).heap.size ≤ W'.heap.size := hbw.size
          have hps := HP.out.below (rq_stable B) (bthen HM.out.below hbo)
          obtain rfl | rfl | rfl | rfl | rfl | rfl | rfl | rfl | rfl | rfl | rfl | rfl | rfl | rfl : j = 0 ∨ j = 1 ∨ j = 2 ∨ j = 3 ∨ j = 4 ∨ j = 5 ∨ j = 6 ∨ j = 7 ∨ j = 8 ∨ j = 9 ∨ j = 10 ∨ j = 11 ∨ j = 12 ∨ j = 13 := by omega
          · simp at ho
            subst ho
            simp [Region.binds] at hpre
            refine wpOpIn_step rfl (fun K' hK => ?_)
            simp only [Region.wanted]
            have HK := Lib.hid hK
            clear hK
            gi_wp2
            exact HK.out _ _ ⟨.slice Ap lp cp, by simp [upd, undef, Qx.v, Qx.zero, *], BR.refl _ _, rfl, hG.gen (b0 _) (by omega) (by omega)⟩
          · simp at ho
            subst ho
            simp [Region.binds] at hpre
            refine wpOpIn_step rfl (fun K' hK => ?_)
            simp only [Region.wanted]
            have HK := Lib.hid hK
            clear hK
            gi_wp2
            exact HK.out _ _ ⟨.pointer (some ⟨wo.heap.size, 0, none⟩), by simp [upd, undef, Qx.v, Qx.zero, *], BR.refl _ _, rfl, hG.gen (b0 _) (by omega) (by omega)⟩
          · simp at ho
            subst ho
            simp [Region.binds] at hpre
            refine wpOpIn_step rfl (fun K' hK => ?_)
            simp only [Region.wanted]
            have HK := Lib.hid hK
            clear hK
            gi_wp2
            exact HK.out _ _ ⟨.int .i64 x.f, by simp [upd, undef, Qx.v, Qx.zero, *], BR.refl _ _, rfl, hG.gen (b0 _) (by omega) (by omega)⟩
          · simp at ho
            subst ho
            simp [Region.binds] at hpre
            refine wpOpIn_step rfl (fun K' hK => ?_)
            simp only [Region.wanted]
            have HK := Lib.hid hK
            clear hK
            gi_wp2
            exact HK.out _ _ ⟨.pointer (some ⟨wo.heap.size, 1, none⟩), by simp [upd, undef, Qx.v, Qx.zero, *], BR.refl _ _, rfl, hG.gen (b0 _) (by omega) (by omega)⟩
          · simp at ho
            subst ho
            simp [Region.binds] at hpre
            refine wpOpIn_step rfl (fun K' hK => ?_)
            simp only [Region.wanted]
            have HK := Lib.hid hK
            clear hK
            gi_wp2
            exact HK.out _ _ ⟨.int .i64 x.t, by simp [upd, undef, Qx.v, Qx.zero, *], BR.refl _ _, rfl, hG.gen (b0 _) (by omega) (by omega)⟩
          · simp at ho
            subst ho
            simp [Region.binds] at hpre
            refine wpOpIn_step rfl (fun K' hK => ?_)
            simp only [Region.wanted]
            have HK := Lib.hid hK
            clear hK
            gi_wp2
            exact HK.out _ _ ⟨.pointer (some ⟨wo.heap.size, 2, none⟩), by simp [upd, undef, Qx.v, Qx.zero, *], BR.refl _ _, rfl, hG.gen (b0 _) (by omega) (by omega)⟩
          · simp at ho
            subst ho
            simp [Region.binds] at hpre
            refine wpOpIn_step rfl (fun K' hK => ?_)
            simp only [Region.wanted]
            have HK := Lib.hid hK
            clear hK
            gi_wp2
            exact HK.out _ _ ⟨.int .i64 x.q, by simp [upd, undef, Qx.v, Qx.zero, *], BR.refl _ _, rfl, hG.gen (b0 _) (by omega) (by omega)⟩
          · simp at ho
            subst ho
            simp [Region.binds] at hpre
            have F := Lib.hid (fun W => @fromInt_q W x.q h1 h2)
            refine wpOpIn_step rfl (fun K' hK => ?_)
            simp only [Region.wanted]
            have HK := Lib.hid hK
            clear hK
            gi_wp2_with (gi_at_call 49; (with_reducible refine CallsIn.mono (callsIn_wide.2 (F.out _)) ?_); rintro e w1 ⟨n4, A4, l4, c4, m4, D4, e4, g4, rfl, hb1, hr1⟩)
            refine HK.out _ _ ⟨(.agg #[.bool n4, .slice A4 l4 c4, .bool m4, .slice D4 e4 g4]), by simp [upd, undef, Qx.v, Qx.zero, *], BR.of hb1 hszw, ⟨⟨n4, .slice A4 l4 c4, m4, .slice D4 e4 g4⟩, rfl, hr1.any⟩, hG.gen hb1 (by omega) (by omega)⟩
          · simp at ho
            subst ho
            simp [Region.binds] at hpre
            obtain ⟨⟨_, b0'⟩, ⟨_, b2'⟩, ⟨_, b4'⟩, _, p, e2', hp⟩ := hpre
            obtain ⟨n5, ⟨A5, l5, c5⟩, m5, ⟨D5, e5, g5⟩, rfl⟩ := Qx.shape (isQc.slices hp)
            simp only [Qx.v] at e2' hp
            have HF := Lib.hid (trade_c hps (isQc.q hp (qB_int h1 h2 |>.mono hB2)) x.f.toNat x.t.toNat hf1 ht1 (by omega) hB)
            rw [Int.toNat_of_nonneg hf0, Int.toNat_of_nonneg ht0] at HF
            refine wpOpIn_step rfl (fun K' hK => ?_)
            simp only [Region.wanted]
            have HK := Lib.hid hK
            clear hK
            gi_wp2_with (gi_at_call 114; (with_reducible refine CallsIn.mono (callsIn_wide.2 HF.out) ?_); rintro e w1 ⟨n4, A4, l4, c4, m4, D4, e4, g4, rfl, hb1, hr1⟩)
            refine HK.out _ _ ⟨.tuple #[(.agg #[.bool n4, .slice A4 l4 c4, .bool m4, .slice D4 e4 g4]), .int .i64 0], by simp [upd, undef, Qx.v, Qx.zero, *], BR.of hb1 hszw, ⟨⟨n4, .slice A4 l4 c4, m4, .slice D4 e4 g4⟩, rfl, hr1.any⟩, hG.gen hb1 (by omega) (by omega)⟩
          · simp at ho
            subst ho
            simp [Region.binds] at hpre
            have hpre := hpre.2
            obtain ⟨p, e2', hp⟩ : (∃ p : Qx, u 8 = .tuple #[p.v, .int .i64 0] ∧ cq W' p.v ((x.q : Rat) * (ps.getD x.t.toNat 0 - ps.getD x.f.toNat 0))) := hpre
            obtain ⟨n5, ⟨A5, l5, c5⟩, m5, ⟨D5, e5, g5⟩, rfl⟩ := Qx.shape (isQc.slices hp)
            simp only [Qx.v] at e2' hp
            refine wpOpIn_step rfl (fun K' hK => ?_)
            simp only [Region.wanted]
            have HK := Lib.hid hK
            clear hK
            gi_wp2
            refine HK.out _ _ ⟨.tuple #[(.agg #[.bool n5, .slice A5 l5 c5, .bool m5, .slice D5 e5 g5]), .int .i64 0], by simp [upd, undef, Qx.v, Qx.zero, *], BR.refl _ _, ⟨⟨n5, .slice A5 l5 c5, m5, .slice D5 e5 g5⟩, rfl, hp⟩, hG.gen (b0 _) (by omega) (by omega)⟩
          · simp at ho
            subst ho
            simp [Region.binds] at hpre
            have hpre := hpre.2
            obtain ⟨p, e2', hp⟩ : (∃ p : Qx, u 9 = .tuple #[p.v, .int .i64 0] ∧ cq W' p.v ((x.q : Rat) * (ps.getD x.t.toNat 0 - ps.getD x.f.toNat 0))) := hpre
            obtain ⟨n5, ⟨A5, l5, c5⟩, m5, ⟨D5, e5, g5⟩, rfl⟩ := Qx.shape (isQc.slices hp)
            simp only [Qx.v] at e2' hp
            refine wpOpIn_step rfl (fun K' hK => ?_)
            simp only [Region.wanted]
            have HK := Lib.hid hK
            clear hK
            gi_wp2
            refine HK.out _ _ ⟨(.agg #[.bool n5, .slice A5 l5 c5, .bool m5, .slice D5 e5 g5]), by simp [upd, undef, Qx.v, Qx.zero, *], BR.refl _ _, ⟨⟨n5, .slice A5 l5 c5, m5, .slice D5 e5 g5⟩, rfl, hp⟩, hG.gen (b0 _) (by omega) (by omega)⟩
          · simp at ho
            subst ho
            simp [Region.binds] at hpre
            have hpre := hpre.2
            obtain ⟨p, e2', hp⟩ : (∃ p : Qx, u 9 = .tuple #[p.v, .int .i64 0] ∧ cq W' p.v ((x.q : Rat) * (ps.getD x.t.toNat 0 - ps.getD x.f.toNat 0))) := hpre
            obtain ⟨n5, ⟨A5, l5, c5⟩, m5, ⟨D5, e5, g5⟩, rfl⟩ := Qx.shape (isQc.slices hp)
            simp only [Qx.v] at e2' hp
            refine wpOpIn_step rfl (fun K' hK => ?_)
            simp only [Region.wanted]
            have HK := Lib.hid hK
            clear hK
            gi_wp2
            refine HK.out _ _ ⟨.int .i64 0, by simp [upd, undef, Qx.v, Qx.zero, *], BR.refl _ _, rfl, hG.gen (b0 _) (by omega) (by omega)⟩
          · simp at ho
            subst ho
            simp [Region.binds] at hpre
            have hn13 : ¬ D 13 := fun h => hnD (hcl 13 _ rfl h ⟨12, .data⟩ (by simp) rfl)
            refine wpOpIn_step rfl (fun K' hK => ?_)
            simp only [Region.wanted]
            have HK := Lib.hid hK
            clear hK
            gi_wp2
            refine HK.out _ _ ⟨.pointer (some ⟨W'.heap.size, 0, none⟩), by simp [upd, undef, Qx.v, Qx.zero, *], BR.of (bal (b0 _)) hszw, trivial, Gbox.new hszw hn13⟩
          · simp at ho
            subst ho
            have hpre0 := hpre
            simp [Region.binds] at hpre
            obtain ⟨p, e2', hp⟩ : (∃ p : Qx, u 10 = p.v ∧ cq W' p.v ((x.q : Rat) * (ps.getD x.t.toNat 0 - ps.getD x.f.toNat 0))) := (hpre0 ⟨10, .data⟩ (by simp) rfl).2
            obtain ⟨n5, ⟨A5, l5, c5⟩, m5, ⟨D5, e5, g5⟩, rfl⟩ := Qx.shape (isQc.slices hp)
            simp only [Qx.v] at e2' hp
            have hD12 : D 12 := (hpre0 ⟨12, .data⟩ (by simp) rfl).1
            obtain ⟨g, p0, e12, hg0, hg, hsl, _⟩ := hG hD12
            obtain ⟨zn, zA, zl, zc, zm, zB, zl2, zc2, z0, z1, z2, z3⟩ := four0 hg hsl
            simp only [Nat.zero_add] at z1 z2 z3
            have zf := fun j => hg.frozen j
            have hgl := hg.lt
            have HG := Lib.hid hg
            clear hpre hpre0 hG hg
            refine wpOpIn_step rfl (fun K' hK => ?_)
            simp only [Region.wanted]
            have HK := Lib.hid hK
            clear hK
            gi_wp2
            refine HK.out _ _ ⟨undef, by simp [upd, undef, Qx.v, Qx.zero, *], BR.st4 (z := ⟨n5, .slice A5 l5 c5, m5, .slice D5 e5 g5⟩) HG.out hsl hg0, trivial, Gbox.store (z := ⟨n5, .slice A5 l5 c5, m5, .slice D5 e5 g5⟩) e12 hg0 HG.out hsl hp (by omega)⟩
        case fin =>
          intro u W' hR hY hG
          have hbo : Below wo.heap.size wo W' := (bal (b0 wo)).trans ((bdr (b0 (wo.alloc (Obj.cells #[.int .i64 x.f, .int .i64 x.t, .int .i64 x.q] 92)))).trans hR.below |>.mono (by simp))
          have g11 : u 11 = .int .i64 0 := hY 11 (by omega)
          obtain ⟨g, p, g12, hg0, hg, hsl, hpv⟩ := hG (show 12 < 14 by omega)
          have hp := hpv (show 13 < 14 by omega)
          obtain ⟨n5, ⟨A5, l5, c5⟩, m5, ⟨D5, e5, g5⟩, rfl⟩ := Qx.shape (isQc.slices hp)
          obtain ⟨z0, z1, z2, z3⟩ := four1 (n3 := .bool n5) (s3 := .slice A5 l5 c5) (m3 := .bool m5) (t3 := .slice D5 e5 g5) hg
          simp only [Qx.v] at hp
          have HPV := Lib.hid hp
          have HM3 := Lib.hid (HM.out.later hbo)
          have hs3 := HM3.out.blk.lt
          have HBO := Lib.hid hbo
          have hgl := hg.lt
          clear hY hbo hR hg hG hpv hp
          refine wpTail_step (i' := 15) (c := 0) rfl ?_
          rw [g11, g12]
          refine wpOpIn_step rfl (fun K' hK => ?_)
          simp only [Region.wanted, List.getElem_toArray, List.getElem_cons_succ, List.getElem_cons_zero]
          have HK := Lib.hid hK
          clear hK
          gi_wp2
          refine HK.out _ _ (wpTail_end ?_)
          clear HK
          obtain ⟨m2, m2', p2, q2, ⟨s0, s1, s2, s3⟩, _⟩ := HM3.out.four hll
          have sf := HM3.out.frozen
          gi_wp2
          go_roundw
          case rel =>
            refine ⟨k + 1, l'.set k ⟨n5, .slice A5 l5 c5, m5, .slice D5 e5 g5⟩, by omega, rfl, rfl, val_int (by omega), Lib.hid ?_, Lib.hid (fun j hj => ?_)⟩
            · have := HM3.out.set (k := k) (y := ⟨n5, .slice A5 l5 c5, m5, .slice D5 e5 g5⟩) hll HPV.out
              rw [show (x.q : Rat) * (ps.getD x.t.toNat 0 - ps.getD x.f.toNat 0) = payF ps rs k by unfold payF; rw [HX.out], fillL_set] at this
              exact this
            · rcases Nat.lt_or_ge j k with h | h
              · exact HI.out j h
              · obtain rfl : j = k := by omega
                rw [← HX.out]; exact HIN.out
          case measure => simp [intOf]; omega
      · have hno : ¬ (0 ≤ x.f ∧ x.f < (lp : Int) ∧ 0 ≤ x.t ∧ x.t < (lp : Int)) := by
          rw [HLP.out]
          intro ⟨a1, a2, a3, a4⟩
          apply hin
          unfold inr isB
          simp; omega
        have hall : rs.all (inr ps.length) = false := by
          rw [Bool.eq_false_iff]
          intro h
          rw [List.all_eq_true] at h
          exact hin (by have := h (rs.getD k Rt.zero) (by rw [List.getD_eq_getElem?_getD, List.getElem?_eq_getElem hlt]; exact List.getElem_mem hlt); rwa [← HX.out] at this)
        have HA := Lib.hid hall
        clear hin hall
        gi_wp2
        refine wpIn_region_G (by kernel_rfl) (by kernel_rfl) 14 1 rfl (by kernel_rfl) (fun u => { tmps := #[.slice (some ⟨br, or, none⟩) rs.length c, .slice Ap lp cp, undef, undef, .slice none 0 0, .int .i64 0, .slice (some ⟨w.heap.size, 0, none⟩) rs.length rs.length, .int .i64 (k : Int), .pointer (some ⟨wo.heap.size, 0, none⟩), u 12, u 14, .slice (some ⟨br, or, none⟩) rs.length c, .int .i64 (rs.length : Int), .slice (some ⟨w.heap.size, 0, none⟩) rs.length rs.length, .slice (some ⟨br, or, none⟩) rs.length c, .int .i64 (rs.length : Int), .int .i64 (k : Int), .bool true, .int .i64 (k : Int), .pointer (some ⟨br, or + k * 3, none⟩), .agg #[.int .i64 x.f, .int .i64 x.t, .int .i64 x.q], u 9, u 0, u 1, u 2, u 3, u 4, u 5, u 6, u 7, u 8, u 10, u 11, u33, u34, u35, u36, u37, u38, u39, u40, undef], defers := [] }) (fun k => #[u22, u23, u24, u25, u26, u27, u28, u29, u30, u21, u31, u32, u9, undef, u10].getD k undef) rfl (BR ((wo.alloc (Obj.cells #[.int .i64 x.f, .int .i64 x.t, .int .i64 x.q] 92)).heap.size)) (BR.refl _) BR.trans
          (fun j9 v W1 => match j9 with
            | 0 => v = .slice Ap lp cp
            | 1 => v = .pointer (some ⟨wo.heap.size, 0, none⟩)
            | 2 => v = .int .i64 x.f
            | 3 => v = .pointer (some ⟨wo.heap.size, 1, none⟩)
            | 4 => v = .int .i64 x.t
            | 5 => v = .pointer (some ⟨wo.heap.size, 2, none⟩)
            | 6 => v = .int .i64 x.q
            | 7 => ∃ p : Qx, v = p.v ∧ cq W1 p.v ((x.q : Rat))
            | 8 => ∃ p : Qx, v = .tuple #[p.v, .int .i64 1] ∧ cq W1 p.v (0)
            | 9 => ∃ p : Qx, v = .tuple #[p.v, .int .i64 1] ∧ cq W1 p.v (0)
            | 10 => ∃ p : Qx, v = p.v ∧ cq W1 p.v (0)
            | 11 => v = .int .i64 1
            | _ => True) ?hY (Gbox ((wo.alloc (Obj.cells #[.int .i64 x.f, .int .i64 x.t, .int .i64 x.q] 92)).heap.size) 12 13 (0)) (fun h => h.elim) ?step ?fin
        case hY =>
          intro k v W1 W2 h hb
          match k, h with
          | 0, h => exact h
          | 1, h => exact h
          | 2, h => exact h
          | 3, h => exact h
          | 4, h => exact h
          | 5, h => exact h
          | 6, h => exact h
          | 7, ⟨p, e, h⟩ => exact ⟨p, e, hb.el _ _ h⟩
          | 8, ⟨p, e, h⟩ => exact ⟨p, e, hb.el _ _ h⟩
          | 9, ⟨p, e, h⟩ => exact ⟨p, e, hb.el _ _ h⟩
          | 10, ⟨p, e, h⟩ => exact ⟨p, e, hb.el _ _ h⟩
          | 11, h => exact h
          | k + 12, h => trivial
        case step =>
          intro D u W' j o hj ho hnD hcl hpre hR hG
          have hbw : Below (wo.alloc (Obj.cells #[.int .i64 x.f, .int .i64 x.t, .int .i64 x.q] 92)).heap.size (wo.alloc (Obj.cells #[.int .i64 x.f, .int .i64 x.t, .int .i64 x.q] 92)) W' := (bdr (b0 (wo.alloc (Obj.cells #[.int .i64 x.f, .int .i64 x.t, .int .i64 x.q] 92)))).trans hR.below
          have hbo : Below wo.heap.size wo W' := (bal (b0 wo)).trans (hbw.mono (by simp))
          have hx := HXC.out.below hbw
          have x0 := hx.cell 0
          have x1 := hx.cell 1
          have x2 := hx.cell 2
          simp only [List.getElem?_cons_zero, List.getElem?_cons_succ] at x0 x1 x2
          have hszw : (wo.alloc (Obj.cells #[.int .i64 x.f, .int .i64 x.t, .int .i64 x.q] 92)).heap.size ≤ W'.heap.size := hbw.size
          have hps := HP.out.below (rq_stable B) (bthen HM.out.below hbo)
          obtain rfl | rfl | rfl | rfl | rfl | rfl | rfl | rfl | rfl | rfl | rfl | rfl | rfl | rfl : j = 0 ∨ j = 1 ∨ j = 2 ∨ j = 3 ∨ j = 4 ∨ j = 5 ∨ j = 6 ∨ j = 7 ∨ j = 8 ∨ j = 9 ∨ j = 10 ∨ j = 11 ∨ j = 12 ∨ j = 13 := by omega
          · simp at ho
            subst ho
            simp [Region.binds] at hpre
            refine wpOpIn_step rfl (fun K' hK => ?_)
            simp only [Region.wanted]
            have HK := Lib.hid hK
            clear hK
            gi_wp2
            exact HK.out _ _ ⟨.slice Ap lp cp, by simp [upd, undef, Qx.v, Qx.zero, *], BR.refl _ _, rfl, hG.gen (b0 _) (by omega) (by omega)⟩
          · simp at ho
            subst ho
            simp [Region.binds] at hpre
            refine wpOpIn_step rfl (fun K' hK => ?_)
            simp only [Region.wanted]
            have HK := Lib.hid hK
            clear hK
            gi_wp2
            exact HK.out _ _ ⟨.pointer (some ⟨wo.heap.size, 0, none⟩), by simp [upd, undef, Qx.v, Qx.zero, *], BR.refl _ _, rfl, hG.gen (b0 _) (by omega) (by omega)⟩
          · simp at ho
            subst ho
            simp [Region.binds] at hpre
            refine wpOpIn_step rfl (fun K' hK => ?_)
            simp only [Region.wanted]
            have HK := Lib.hid hK
            clear hK
            gi_wp2
            exact HK.out _ _ ⟨.int .i64 x.f, by simp [upd, undef, Qx.v, Qx.zero, *], BR.refl _ _, rfl, hG.gen (b0 _) (by omega) (by omega)⟩
          · simp at ho
            subst ho
            simp [Region.binds] at hpre
            refine wpOpIn_step rfl (fun K' hK => ?_)
            simp only [Region.wanted]
            have HK := Lib.hid hK
            clear hK
            gi_wp2
            exact HK.out _ _ ⟨.pointer (some ⟨wo.heap.size, 1, none⟩), by simp [upd, undef, Qx.v, Qx.zero, *], BR.refl _ _, rfl, hG.gen (b0 _) (by omega) (by omega)⟩
          · simp at ho
            subst ho
            simp [Region.binds] at hpre
            refine wpOpIn_step rfl (fun K' hK => ?_)
            simp only [Region.wanted]
            have HK := Lib.hid hK
            clear hK
            gi_wp2
            exact HK.out _ _ ⟨.int .i64 x.t, by simp [upd, undef, Qx.v, Qx.zero, *], BR.refl _ _, rfl, hG.gen (b0 _) (by omega) (by omega)⟩
          · simp at ho
            subst ho
            simp [Region.binds] at hpre
            refine wpOpIn_step rfl (fun K' hK => ?_)
            simp only [Region.wanted]
            have HK := Lib.hid hK
            clear hK
            gi_wp2
            exact HK.out _ _ ⟨.pointer (some ⟨wo.heap.size, 2, none⟩), by simp [upd, undef, Qx.v, Qx.zero, *], BR.refl _ _, rfl, hG.gen (b0 _) (by omega) (by omega)⟩
          · simp at ho
            subst ho
            simp [Region.binds] at hpre
            refine wpOpIn_step rfl (fun K' hK => ?_)
            simp only [Region.wanted]
            have HK := Lib.hid hK
            clear hK
            gi_wp2
            exact HK.out _ _ ⟨.int .i64 x.q, by simp [upd, undef, Qx.v, Qx.zero, *], BR.refl _ _, rfl, hG.gen (b0 _) (by omega) (by omega)⟩
          · simp at ho
            subst ho
            simp [Region.binds] at hpre
            have F := Lib.hid (fun W => @fromInt_q W x.q h1 h2)
            refine wpOpIn_step rfl (fun K' hK => ?_)
            simp only [Region.wanted]
            have HK := Lib.hid hK
            clear hK
            gi_wp2_with (gi_at_call 49; (with_reducible refine CallsIn.mono (callsIn_wide.2 (F.out _)) ?_); rintro e w1 ⟨n4, A4, l4, c4, m4, D4, e4, g4, rfl, hb1, hr1⟩)
            refine HK.out _ _ ⟨(.agg #[.bool n4, .slice A4 l4 c4, .bool m4, .slice D4 e4 g4]), by simp [upd, undef, Qx.v, Qx.zero, *], BR.of hb1 hszw, ⟨⟨n4, .slice A4 l4 c4, m4, .slice D4 e4 g4⟩, rfl, hr1.any⟩, hG.gen hb1 (by omega) (by omega)⟩
          · simp at ho
            subst ho
            simp [Region.binds] at hpre
            obtain ⟨⟨_, b0'⟩, ⟨_, b2'⟩, ⟨_, b4'⟩, _, p, e2', hp⟩ := hpre
            obtain ⟨n5, ⟨A5, l5, c5⟩, m5, ⟨D5, e5, g5⟩, rfl⟩ := Qx.shape (isQc.slices hp)
            simp only [Qx.v] at e2' hp
            have HF := Lib.hid (trade_e (w := W') (A := Ap) (l := lp) (c := cp) (n := n5) (m := m5) (A1 := A5) (D1 := D5) (l1 := l5) (c1 := c5) (e1 := e5) (g1 := g5) x.f x.t hno hlp)
            refine wpOpIn_step rfl (fun K' hK => ?_)
            simp only [Region.wanted]
            have HK := Lib.hid hK
            clear hK
            gi_wp2_with (gi_at_call 114; (with_reducible refine CallsIn.mono (callsIn_wide.2 HF.out) ?_); rintro e w1 ⟨rfl, hb1⟩)
            refine HK.out _ _ ⟨.tuple #[.agg #[.bool false, .slice none 0 0, .bool false, .slice none 0 0], .int .i64 1], by simp [upd, undef, Qx.v, Qx.zero, *], BR.of hb1 hszw, ⟨Qx.zero, rfl, cq_ratl.zero _⟩, hG.gen hb1 (by omega) (by omega)⟩
          · simp at ho
            subst ho
            simp [Region.binds] at hpre
            have hpre := hpre.2
            obtain ⟨p, e2', hp⟩ : (∃ p : Qx, u 8 = .tuple #[p.v, .int .i64 1] ∧ cq W' p.v (0)) := hpre
            obtain ⟨n5, ⟨A5, l5, c5⟩, m5, ⟨D5, e5, g5⟩, rfl⟩ := Qx.shape (isQc.slices hp)
            simp only [Qx.v] at e2' hp
            refine wpOpIn_step rfl (fun K' hK => ?_)
            simp only [Region.wanted]
            have HK := Lib.hid hK
            clear hK
            gi_wp2
            refine HK.out _ _ ⟨.tuple #[(.agg #[.bool n5, .slice A5 l5 c5, .bool m5, .slice D5 e5 g5]), .int .i64 1], by simp [upd, undef, Qx.v, Qx.zero, *], BR.refl _ _, ⟨⟨n5, .slice A5 l5 c5, m5, .slice D5 e5 g5⟩, rfl, hp⟩, hG.gen (b0 _) (by omega) (by omega)⟩
          · simp at ho
            subst ho
            simp [Region.binds] at hpre
            have hpre := hpre.2
            obtain ⟨p, e2', hp⟩ : (∃ p : Qx, u 9 = .tuple #[p.v, .int .i64 1] ∧ cq W' p.v (0)) := hpre
            obtain ⟨n5, ⟨A5, l5, c5⟩, m5, ⟨D5, e5, g5⟩, rfl⟩ := Qx.shape (isQc.slices hp)
            simp only [Qx.v] at e2' hp
            refine wpOpIn_step rfl (fun K' hK => ?_)
            simp only [Region.wanted]
            have HK := Lib.hid hK
            clear hK
            gi_wp2
            refine HK.out _ _ ⟨(.agg #[.bool n5, .slice A5 l5 c5, .bool m5, .slice D5 e5 g5]), by simp [upd, undef, Qx.v, Qx.zero, *], BR.refl _ _, ⟨⟨n5, .slice A5 l5 c5, m5, .slice D5 e5 g5⟩, rfl, hp⟩, hG.gen (b0 _) (by omega) (by omega)⟩
          · simp at ho
            subst ho
            simp [Region.binds] at hpre
            have hpre := hpre.2
            obtain ⟨p, e2', hp⟩ : (∃ p : Qx, u 9 = .tuple #[p.v, .int .i64 1] ∧ cq W' p.v (0)) := hpre
            obtain ⟨n5, ⟨A5, l5, c5⟩, m5, ⟨D5, e5, g5⟩, rfl⟩ := Qx.shape (isQc.slices hp)
            simp only [Qx.v] at e2' hp
            refine wpOpIn_step rfl (fun K' hK => ?_)
            simp only [Region.wanted]
            have HK := Lib.hid hK
            clear hK
            gi_wp2
            refine HK.out _ _ ⟨.int .i64 1, by simp [upd, undef, Qx.v, Qx.zero, *], BR.refl _ _, rfl, hG.gen (b0 _) (by omega) (by omega)⟩
          · simp at ho
            subst ho
            simp [Region.binds] at hpre
            have hn13 : ¬ D 13 := fun h => hnD (hcl 13 _ rfl h ⟨12, .data⟩ (by simp) rfl)
            refine wpOpIn_step rfl (fun K' hK => ?_)
            simp only [Region.wanted]
            have HK := Lib.hid hK
            clear hK
            gi_wp2
            refine HK.out _ _ ⟨.pointer (some ⟨W'.heap.size, 0, none⟩), by simp [upd, undef, Qx.v, Qx.zero, *], BR.of (bal (b0 _)) hszw, trivial, Gbox.new hszw hn13⟩
          · simp at ho
            subst ho
            have hpre0 := hpre
            simp [Region.binds] at hpre
            obtain ⟨p, e2', hp⟩ : (∃ p : Qx, u 10 = p.v ∧ cq W' p.v (0)) := (hpre0 ⟨10, .data⟩ (by simp) rfl).2
            obtain ⟨n5, ⟨A5, l5, c5⟩, m5, ⟨D5, e5, g5⟩, rfl⟩ := Qx.shape (isQc.slices hp)
            simp only [Qx.v] at e2' hp
            have hD12 : D 12 := (hpre0 ⟨12, .data⟩ (by simp) rfl).1
            obtain ⟨g, p0, e12, hg0, hg, hsl, _⟩ := hG hD12
            obtain ⟨zn, zA, zl, zc, zm, zB, zl2, zc2, z0, z1, z2, z3⟩ := four0 hg hsl
            simp only [Nat.zero_add] at z1 z2 z3
            have zf := fun j => hg.frozen j
            have hgl := hg.lt
            have HG := Lib.hid hg
            clear hpre hpre0 hG hg
            refine wpOpIn_step rfl (fun K' hK => ?_)
            simp only [Region.wanted]
            have HK := Lib.hid hK
            clear hK
            gi_wp2
            refine HK.out _ _ ⟨undef, by simp [upd, undef, Qx.v, Qx.zero, *], BR.st4 (z := ⟨n5, .slice A5 l5 c5, m5, .slice D5 e5 g5⟩) HG.out hsl hg0, trivial, Gbox.store (z := ⟨n5, .slice A5 l5 c5, m5, .slice D5 e5 g5⟩) e12 hg0 HG.out hsl hp (by omega)⟩
        case fin =>
          intro u W' hR hY hG
          have hbo : Below wo.heap.size wo W' := (bal (b0 wo)).trans ((bdr (b0 (wo.alloc (Obj.cells #[.int .i64 x.f, .int .i64 x.t, .int .i64 x.q] 92)))).trans hR.below |>.mono (by simp))
          have g11 : u 11 = .int .i64 1 := hY 11 (by omega)
          obtain ⟨g, p, g12, hg0, hg, hsl, hpv⟩ := hG (show 12 < 14 by omega)
          have hp := hpv (show 13 < 14 by omega)
          obtain ⟨n5, ⟨A5, l5, c5⟩, m5, ⟨D5, e5, g5⟩, rfl⟩ := Qx.shape (isQc.slices hp)
          obtain ⟨z0, z1, z2, z3⟩ := four1 (n3 := .bool n5) (s3 := .slice A5 l5 c5) (m3 := .bool m5) (t3 := .slice D5 e5 g5) hg
          simp only [Qx.v] at hp
          have HPV := Lib.hid hp
          have HM3 := Lib.hid (HM.out.later hbo)
          have hs3 := HM3.out.blk.lt
          have HBO := Lib.hid hbo
          have hgl := hg.lt
          clear hY hbo hR hg hG hpv hp
          refine wpTail_step (i' := 15) (c := 0) rfl ?_
          rw [g11, g12]
          refine wpOpIn_step rfl (fun K' hK => ?_)
          simp only [Region.wanted, List.getElem_toArray, List.getElem_cons_succ, List.getElem_cons_zero]
          have HK := Lib.hid hK
          clear hK
          gi_wp2
          refine HK.out _ _ (wpTail_end ?_)
          clear HK
          gi_wp2
          refine bodyPost_ret (v := .tuple #[.slice none 0 0, .int .i64 1]) ?_ rfl ?_
          · simp [results, Tryz.results43, go_sem]
          · exact ⟨bthen HM.out.below HBO.out, fun h => by rw [HA.out] at h; (try simp at h), fun _ => rfl⟩
    · obtain rfl : k = rs.length := by omega
      rw [fillL_all] at HM
      have hall : rs.all (inr ps.length) = true := by
        rw [List.all_eq_true]
        intro x hx
        obtain ⟨j, hj, rfl⟩ := List.getElem_of_mem hx
        have := HI.out j hj
        rwa [List.getD_eq_getElem?_getD, List.getElem?_eq_getElem hj] at this
      have HA := Lib.hid hall
      clear hall
      gi_wp2
      refine bodyPost_ret (v := .tuple #[.slice (some ⟨w.heap.size, 0, none⟩) rs.length rs.length, .int .i64 0]) ?_ rfl ?_
      · simp [results, Tryz.results43, go_sem]
      · refine ⟨HM.out.below, fun _ => ⟨_, _, _, rfl, ?_⟩, fun h => by rw [HA.out] at h; (try simp at h)⟩
        have := HM.out.vq (n0 := n0) (c := rs.length) (by simp) (by unfold maxLen; omega)
        simp only [List.length_map, List.length_range] at this
        exact this
end Go.Proofs.YtdkfdamihnieiaaGreat
end
