/- shift.Factors' closure. -/
import Derived.Test.YtdkfdamihnieiaaGreatG28
set_option linter.unusedSimpArgs false
set_option linter.unusedVariables false
section
open Go Go.RowKit Go.Shelf
namespace Go.Proofs.YtdkfdamihnieiaaGreat
open Go.Proofs
attribute [local go_sem] Oper.semAt_some wide_fn wide_depth
def facQ (out : List Int) (refs : List Nat) (i b : Nat) (l : Ln) (qa : List Rat) : Rat :=
  if (i : Int) ∈ out ∨ (b : Int) ∈ intsL refs then 0 else (qa.getD l.f.toNat 0 - qa.getD l.t.toNat 0) / (l.x : Rat)
/-- From W1 to W2: what lies below is as it was; every number stands, its words where they are. -/
structure BRX (N0 : Nat) (W1 W2 : World) : Prop where
  below : Below N0 W1 W2
  size : W1.heap.size ≤ W2.heap.size
  el : ∀ ok v q, isQc ok W1 v q → isQc ok W2 v q
theorem BRX.refl (N0 : Nat) (W : World) : BRX N0 W W := ⟨Below.refl _ _, Nat.le_refl _, fun _ _ _ h => h⟩
theorem BRX.trans {N0 : Nat} {A B C : World} (h : BRX N0 A B) (k : BRX N0 B C) : BRX N0 A C := ⟨h.below.trans k.below, Nat.le_trans h.size k.size, fun ok v q x => k.el ok v q (h.el ok v q x)⟩
theorem BRX.of {N0 : Nat} {W1 W2 : World} (h : Below W1.heap.size W1 W2) (hN : N0 ≤ W1.heap.size) : BRX N0 W1 W2 := ⟨h.mono hN, h.size, fun _ _ _ x => isQc.below x h⟩
theorem BRX.st4 {N0 : Nat} {W : World} {g : Nat} {p z : Qx} (hg : Blk W g 44 p.cs) (hs : p.sl) (hN : N0 ≤ g) : BRX N0 W (YtdkfdamihnieiaaGreat.st4 W g 0 z) := ⟨st4_belowB (Below.refl _ _) hN, Nat.le_of_eq (st4_size _ _ _ _).symm, fun ok _ _ x => st4_el0 (cqo_stable ok) hg hs x⟩
def GboxX (ok : Nat → Prop) (N0 i j : Nat) (val : Rat) (D : Nat → Prop) (u : Nat → Value) (W : World) : Prop := D i → ∃ (g : Nat) (p : Qx), u i = .pointer (some ⟨g, 0, none⟩) ∧ N0 ≤ g ∧ Blk W g 44 p.cs ∧ p.sl ∧ (D j → isQc ok W p.v val)
theorem GboxX.gen {ok N0 i j : _} {val : Rat} {D : Nat → Prop} {u : Nat → Value} {W W2 : World} {J : Nat} {v : Value} (h : GboxX ok N0 i j val D u W) (hb : Below W.heap.size W W2) (h1 : J ≠ i) (h2 : J ≠ j) : GboxX ok N0 i j val (fun k => k = J ∨ D k) (upd u J v) W2 := by
  intro hD
  rcases hD with e | hD
  · exact absurd e.symm h1
  obtain ⟨g, p, e, hg, hB, hs, hv⟩ := h hD
  refine ⟨g, p, by simpa [upd, Ne.symm h1] using e, hg, hB.below hb, hs, fun hj => ?_⟩
  rcases hj with e | hj
  · exact absurd e.symm h2
  exact isQc.below (hv hj) hb
theorem GboxX.new {ok : Nat → Prop} {N0 i j : Nat} {val : Rat} {D : Nat → Prop} {u : Nat → Value} {W : World} (hN : N0 ≤ W.heap.size) (hj : ¬ D j) (hij : i ≠ j := by omega) : GboxX ok N0 i j val (fun k => k = i ∨ D k) (upd u i (.pointer (some ⟨W.heap.size, 0, none⟩))) (W.alloc (.cells #[.bool false, .slice none 0 0, .bool false, .slice none 0 0] 44)) := by
  intro _
  refine ⟨W.heap.size, Qx.zero, by simp [upd], hN, Blk.new W Qx.zero.cs 44 rfl, Qx.zero_sl, fun h => ?_⟩
  rcases h with e | h
  · exact absurd e.symm hij
  · exact absurd h hj
theorem GboxX.store {ok : Nat → Prop} {N0 i j : Nat} {val : Rat} {D : Nat → Prop} {u : Nat → Value} {W : World} {g : Nat} {p z : Qx} {v : Value} (e : u i = .pointer (some ⟨g, 0, none⟩)) (hN : N0 ≤ g) (hg : Blk W g 44 p.cs) (hs : p.sl) (hz : isQc ok W z.v val) (hij : i ≠ j) : GboxX ok N0 i j val (fun k => k = j ∨ D k) (upd u j v) (YtdkfdamihnieiaaGreat.st4 W g 0 z) := by
  intro _
  exact ⟨g, z, by simpa [upd, hij] using e, hN, st4_blk0 hg, isQc.slices hz, fun _ => st4_el0 (cqo_stable ok) hg hs hz⟩
set_option maxRecDepth 100000 in
set_option maxHeartbeats 4000000 in
theorem fac_z {w : World} {p2 p3 p4 p5 i b : Nat} {vo vr : Value} {out : List Int} {refs : List Nat} {f t x xc : Int} (ho : Vi w vo out) (hr : Vi w vr (intsL refs)) (c2 : w.cell? ⟨p2, 0, none⟩ = some vo) (c3 : w.cell? ⟨p3, 0, none⟩ = some vr) (c4 : w.cell? ⟨p4, 0, none⟩ = some (.int .i64 (b : Int))) (hin : (i : Int) ∈ out ∨ (b : Int) ∈ intsL refs) :
    Calls Tryz.prog 108 #[.int .i64 (i : Int), .agg #[.int .i64 f, .int .i64 t, .int .i64 x, .int .i64 xc], .pointer (some ⟨p2, 0, none⟩), .pointer (some ⟨p3, 0, none⟩), .pointer (some ⟨p4, 0, none⟩), .pointer (some ⟨p5, 0, none⟩)] w (RetQ w (fresh w) 0) := by
  have HO := Lib.hid (fun W (hb : Below w.heap.size w W) => contains_c (ho.below hb) (i : Int))
  have HR := Lib.hid (fun W (hb : Below w.heap.size w W) => contains_c (hr.below hb) (b : Int))
  obtain ⟨A2, l2, d2, rfl⟩ := ho.shape
  obtain ⟨A3, l3, d3, rfl⟩ := hr.shape
  have HW1 := Lib.hid (HO.out _ (bal (bal (b0 w) (o := .cells #[.int .i64 f, .int .i64 t, .int .i64 x, .int .i64 xc] 68)) (o := .cells #[.bool false, .slice none 0 0, .bool false, .slice none 0 0] 44)))
  have HW2 := Lib.hid (HR.out _ (bal (bal (b0 w) (o := .cells #[.int .i64 f, .int .i64 t, .int .i64 x, .int .i64 xc] 68)) (o := .cells #[.bool false, .slice none 0 0, .bool false, .slice none 0 0] 44)))
  have hp2 := World.block_lt_of_cell? w _ c2
  have hp3 := World.block_lt_of_cell? w _ c3
  have hp4 := World.block_lt_of_cell? w _ c4
  simp only at hp2 hp3 hp4
  have a2 : w.heap.size ≠ p2 := by omega
  have a3 : w.heap.size ≠ p3 := by omega
  have a4 : w.heap.size ≠ p4 := by omega
  obtain ⟨q1, hq1⟩ : ∃ q1, q1 = decide ((i : Int) ∈ out) := ⟨_, rfl⟩
  obtain ⟨q2, hq2⟩ : ∃ q2, q2 = decide ((b : Int) ∈ intsL refs) := ⟨_, rfl⟩
  have HQ := Lib.hid (show q1 = true ∨ q2 = true by rw [hq1, hq2]; simpa using hin)
  rw [← hq1] at HW1
  rw [← hq2] at HW2
  clear ho hr hin hq1 hq2 HO HR
  cases q1 with
  | true =>
    go_enter Tryz.func108, Tryz.ntmps108
    go_wp2_with (first
      | (go_at_call 109; (with_reducible refine Calls.mono HW1.out ?_); rintro e w1 ⟨rfl, rfl⟩)
      | (go_at_call 109; (with_reducible refine Calls.mono HW2.out ?_); rintro e w1 ⟨rfl, rfl⟩))
    refine bodyPost_ret (v := .agg #[.bool false, .slice none 0 0, .bool false, .slice none 0 0]) ?_ rfl ⟨false, none, 0, 0, false, none, 0, 0, rfl, ?_, isQc.zero⟩
    · simp [results, Tryz.results108, go_sem]
    · exact (bal (bal (b0 w)))
  | false =>
    obtain rfl : q2 = true := by have := HQ.out; simpa using this
    go_enter Tryz.func108, Tryz.ntmps108
    go_wp2_with (first
      | (go_at_call 109; (with_reducible refine Calls.mono HW1.out ?_); rintro e w1 ⟨rfl, rfl⟩)
      | (go_at_call 109; (with_reducible refine Calls.mono HW2.out ?_); rintro e w1 ⟨rfl, rfl⟩))
    refine bodyPost_ret (v := .agg #[.bool false, .slice none 0 0, .bool false, .slice none 0 0]) ?_ rfl ⟨false, none, 0, 0, false, none, 0, 0, rfl, ?_, isQc.zero⟩
    · simp [results, Tryz.results108, go_sem]
    · exact (bal (bal (b0 w)))
set_option maxRecDepth 100000 in
set_option maxHeartbeats 8000000 in
theorem fac_q {n0 B : Nat} {w : World} {p2 p3 p4 p5 i b f t : Nat} {vo vr va : Value} {out : List Int} {refs : List Nat} {x xc : Int} {qa : List Rat} (ho : Vi w vo out) (hr : Vi w vr (intsL refs)) (ha : Vq n0 (rq B) w va qa) (c2 : w.cell? ⟨p2, 0, none⟩ = some vo) (c3 : w.cell? ⟨p3, 0, none⟩ = some vr) (c4 : w.cell? ⟨p4, 0, none⟩ = some (.int .i64 (b : Int))) (c5 : w.cell? ⟨p5, 0, none⟩ = some va) (hin : ¬ ((i : Int) ∈ out ∨ (b : Int) ∈ intsL refs)) (hf : f < qa.length) (ht : t < qa.length) (hx1 : 1 ≤ x) (hx2 : x ≤ 1000) (hB0 : 0 < B) (hB : B ≤ 100000000) :
    Calls Tryz.prog 108 #[.int .i64 (i : Int), .agg #[.int .i64 (f : Int), .int .i64 (t : Int), .int .i64 x, .int .i64 xc], .pointer (some ⟨p2, 0, none⟩), .pointer (some ⟨p3, 0, none⟩), .pointer (some ⟨p4, 0, none⟩), .pointer (some ⟨p5, 0, none⟩)] w (RetQ w (fresh w) ((qa.getD f 0 - qa.getD t 0) / (x : Rat))) := by
  have HO := Lib.hid (contains_c (ho.below (bal (bal (b0 w) (o := .cells #[.int .i64 (f : Int), .int .i64 (t : Int), .int .i64 x, .int .i64 xc] 68)) (o := .cells #[.bool false, .slice none 0 0, .bool false, .slice none 0 0] 44))) (i : Int))
  have HR := Lib.hid (contains_c (hr.below (bal (bal (b0 w) (o := .cells #[.int .i64 (f : Int), .int .i64 (t : Int), .int .i64 x, .int .i64 xc] 68)) (o := .cells #[.bool false, .slice none 0 0, .bool false, .slice none 0 0] 44))) (b : Int))
  rw [show decide ((i : Int) ∈ out) = false by simpa using fun h => hin (.inl h)] at HO
  rw [show decide ((b : Int) ∈ intsL refs) = false by simpa using fun h => hin (.inr h)] at HR
  obtain ⟨A2, l2, d2, rfl⟩ := ho.shape
  obtain ⟨A3, l3, d3, rfl⟩ := hr.shape
  have hqf : qB (qa.getD f 0) B := by
    obtain ⟨g, hg⟩ := ha.view (rq_ratl hB0); exact isQ.size (hg.el f) hB0
  have hqt : qB (qa.getD t 0) B := by
    obtain ⟨g, hg⟩ := ha.view (rq_ratl hB0); exact isQ.size (hg.el t) hB0
  obtain ⟨Ava, lva, cva, rfl⟩ := ha.shape
  obtain rfl := ha.len_eq
  obtain ⟨ba, oa, nf, sf, mf, tf, hA, hef, x0, x1, x2, x3⟩ := ha.elem hf
  obtain ⟨ba', oa', nt, st, mt, tt, hA', het, y0, y1, y2, y3⟩ := ha.elem ht
  subst hA
  injection hA' with hA'
  injection hA' with e1 e2 _
  subst e1 e2
  obtain ⟨n1, A1, l1, c1', m1, D1, e1', g1, hsh⟩ := isQ.shape hef
  obtain ⟨n2, A4, l2', c2', m2, D2, e2', g2, hsh2⟩ := isQ.shape het
  simp only [Value.agg.injEq] at hsh hsh2
  obtain ⟨z1, z2, z3, z4⟩ : nf = n1 ∧ sf = .slice A1 l1 c1' ∧ mf = m1 ∧ tf = .slice D1 e1' g1 := by simpa using hsh
  obtain ⟨z1', z2', z3', z4'⟩ : nt = n2 ∧ st = .slice A4 l2' c2' ∧ mt = m2 ∧ tt = .slice D2 e2' g2 := by simpa using hsh2
  subst z1 z2 z3 z4 z1' z2' z3' z4'
  have HSUB := Lib.hid (fun W' (hb : Below w.heap.size w W') => sub_q (hef.below hb) (het.below hb) hB0 hB0 (by omega) (by omega))
  have hxr : (x : Rat) ≠ 0 := by
    intro h
    have h2 : ((x : Int) : Rat) = ((0 : Int) : Rat) := by simpa using h
    have := Rat.intCast_inj.1 h2
    omega
  have HXR := Lib.hid hxr
  have HQB := Lib.hid (show qB (qa.getD f 0 - qa.getD t 0) (B + B + 1) from by
    have := qB_add hqf (qB_neg hqt)
    rwa [← Rat.sub_eq_add_neg] at this)
  have HQX := Lib.hid (qB_int (z := x) (by omega) (by omega))
  have HC := Lib.hid (show w.cell? ⟨p5, 0, none⟩ = some (.slice (some ⟨ba, oa, none⟩) qa.length cva) ∧ w.cell? ⟨ba, oa + f * 4, none⟩ = some (.bool nf) ∧ w.cell? ⟨ba, oa + f * 4 + 1, none⟩ = some (.slice A1 l1 c1') ∧ w.cell? ⟨ba, oa + f * 4 + 2, none⟩ = some (.bool mf) ∧ w.cell? ⟨ba, oa + f * 4 + 3, none⟩ = some (.slice D1 e1' g1) ∧ w.cell? ⟨ba, oa + t * 4, none⟩ = some (.bool nt) ∧ w.cell? ⟨ba, oa + t * 4 + 1, none⟩ = some (.slice A4 l2' c2') ∧ w.cell? ⟨ba, oa + t * 4 + 2, none⟩ = some (.bool mt) ∧ w.cell? ⟨ba, oa + t * 4 + 3, none⟩ = some (.slice D2 e2' g2) from ⟨c5, x0, x1, x2, x3, y0, y1, y2, y3⟩)
  have HBK := Lib.hid (show p5 < w.heap.size ∧ ba < w.heap.size from ⟨World.block_lt_of_cell? w _ c5, World.block_lt_of_cell? w _ x0⟩)
  have HXC := Lib.hid ((Blk.new w [.int .i64 (f : Int), .int .i64 (t : Int), .int .i64 x, .int .i64 xc] 68 rfl).al (o := .cells #[.bool false, .slice none 0 0, .bool false, .slice none 0 0] 44))
  have HZC := Lib.hid (Blk.new (w.alloc (.cells #[.int .i64 (f : Int), .int .i64 (t : Int), .int .i64 x, .int .i64 xc] 68)) [.bool false, .slice none 0 0, .bool false, .slice none 0 0] 44 (n := w.heap.size + 1) (by simp))
  have hp2 := World.block_lt_of_cell? w _ c2
  have hp3 := World.block_lt_of_cell? w _ c3
  have hp4 := World.block_lt_of_cell? w _ c4
  simp only at hp2 hp3 hp4
  have a2 : w.heap.size ≠ p2 := by omega
  have a3 : w.heap.size ≠ p3 := by omega
  have a4 : w.heap.size ≠ p4 := by omega
  have hlm : qa.length ≤ 9223372036854775807 := by have h1 := ha.rv.cap; have h2 := ha.rv.lim; unfold maxLen at h2; omega
  obtain ⟨d1, hd1⟩ : ∃ d1, d1 = qa.getD f 0 - qa.getD t 0 := ⟨_, rfl⟩
  obtain ⟨val, hval⟩ : ∃ val, val = d1 / (x : Rat) := ⟨_, rfl⟩
  rw [← hd1] at HSUB HQB ⊢
  rw [← hval]
  have HVAL := Lib.hid hval
  clear ho hr ha hin hqf hqt hef het hsh hsh2 c5 x0 x1 x2 x3 y0 y1 y2 y3 hxr hd1 hval
  go_enter Tryz.func108, Tryz.ntmps108
  go_wp2_with (first
    | (go_at_call 109; (with_reducible refine Calls.mono HO.out ?_); rintro e w1 ⟨rfl, rfl⟩)
    | (go_at_call 109; (with_reducible refine Calls.mono HR.out ?_); rintro e w1 ⟨rfl, rfl⟩))
  clear c2 c3 c4 a2 a3 a4
  refine (wpIn_wide (n := 10)).1 ?_
  refine wpIn_region_G (by kernel_rfl) (by kernel_rfl) 20 1 rfl (by kernel_rfl) (fun u => { tmps := List.toArray ((Value.int IntKind.i64 ↑i) :: (Value.agg #[Value.int IntKind.i64 ↑f, Value.int IntKind.i64 ↑t, Value.int IntKind.i64 x, Value.int IntKind.i64 xc]) :: (Value.pointer (some { block := p2, off := 0 })) :: (Value.pointer (some { block := p3, off := 0 })) :: (Value.pointer (some { block := p4, off := 0 })) :: (Value.pointer (some { block := p5, off := 0 })) :: undef :: (Value.pointer (some { block := w.heap.size, off := 0 })) :: (Value.pointer (some { block := w.heap.size + 1, off := 0 })) :: (u 18) :: undef :: (Value.slice A2 l2 d2) :: (Value.int IntKind.i64 ↑i) :: (Value.bool false) :: (Value.bool false) :: (Value.slice A3 l3 d3) :: (Value.int IntKind.i64 ↑b) :: (Value.bool false) :: (Value.bool false) :: undef :: (u 15) :: (u 0) :: (u 1) :: (u 2) :: (u 3) :: (u 4) :: (u 5) :: (u 6) :: (u 7) :: (u 8) :: (u 9) :: (u 10) :: (u 11) :: (u 12) :: (u 13) :: (u 14) :: (u 16) :: (u 17) :: undef :: []), defers := [] }) (fun k => #[undef, undef, undef, undef, undef, undef, undef, undef, undef, undef, undef, undef, undef, undef, undef, undef, undef, undef, undef, undef].getD k undef) rfl (BRX ((w.heap.size + 2))) (BRX.refl _) BRX.trans
    (fun j9 v W1 => match j9 with
      | 0 => v = Value.slice (some ⟨ba, oa, none⟩) qa.length cva
      | 1 => v = Value.pointer (some ⟨w.heap.size, 0, none⟩)
      | 2 => v = Value.int .i64 (f : Int)
      | 3 => v = Value.pointer (some ⟨ba, oa + f * 4, none⟩)
      | 4 => v = Value.agg #[.bool nf, .slice A1 l1 c1', .bool mf, .slice D1 e1' g1]
      | 5 => v = Value.slice (some ⟨ba, oa, none⟩) qa.length cva
      | 6 => v = Value.pointer (some ⟨w.heap.size, 1, none⟩)
      | 7 => v = Value.int .i64 (t : Int)
      | 8 => v = Value.pointer (some ⟨ba, oa + t * 4, none⟩)
      | 9 => v = Value.agg #[.bool nt, .slice A4 l2' c2', .bool mt, .slice D2 e2' g2]
      | 10 => ∃ p : Qx, v = p.v ∧ isQc (fun b => w.heap.size ≤ b) W1 p.v (d1)
      | 11 => v = Value.pointer (some ⟨w.heap.size, 2, none⟩)
      | 12 => v = Value.int .i64 x
      | 13 => ∃ p : Qx, v = p.v ∧ isQc (fun b => w.heap.size ≤ b) W1 p.v ((x : Rat))
      | 14 => ∃ p : Qx, v = .tuple #[p.v, .int .i64 0] ∧ isQc (fun b => w.heap.size ≤ b) W1 p.v val
      | 15 => ∃ p : Qx, v = .tuple #[p.v, .int .i64 0] ∧ isQc (fun b => w.heap.size ≤ b) W1 p.v val
      | 16 => ∃ p : Qx, v = p.v ∧ isQc (fun b => w.heap.size ≤ b) W1 p.v (val)
      | 17 => v = Value.int .i64 0
      | _ => True) ?hY (GboxX (fun b => w.heap.size ≤ b) ((w.heap.size + 2)) 18 19 (val)) (fun h => h.elim) ?step ?fin
  case hY =>
    intro k v W1 W2 h hb
    match k, h with
    | 0, h => exact h
    | 1, h => exact h
    | 2, h => exact h
    | 3, h => exact h
    | 4, h => exact h
    | 5, h => exact h
    | 6, h => exact h
    | 7, h => exact h
    | 8, h => exact h
    | 9, h => exact h
    | 10, ⟨p, e, h⟩ => exact ⟨p, e, hb.el _ _ _ h⟩
    | 11, h => exact h
    | 12, h => exact h
    | 13, ⟨p, e, h⟩ => exact ⟨p, e, hb.el _ _ _ h⟩
    | 14, ⟨p, e, h⟩ => exact ⟨p, e, hb.el _ _ _ h⟩
    | 15, ⟨p, e, h⟩ => exact ⟨p, e, hb.el _ _ _ h⟩
    | 16, ⟨p, e, h⟩ => exact ⟨p, e, hb.el _ _ _ h⟩
    | 17, h => exact h
    | k + 18, h => trivial
  case step =>
    intro D u W' j o hj ho hnD hcl hpre hR hG
    have hbw : Below (w.heap.size + 2) ((w.alloc (Obj.cells #[.int .i64 (f : Int), .int .i64 (t : Int), .int .i64 x, .int .i64 xc] 68)).alloc (Obj.cells #[.bool false, .slice none 0 0, .bool false, .slice none 0 0] 44)) W' := (bdr (b0 ((w.alloc (Obj.cells #[.int .i64 (f : Int), .int .i64 (t : Int), .int .i64 x, .int .i64 xc] 68)).alloc (Obj.cells #[.bool false, .slice none 0 0, .bool false, .slice none 0 0] 44)))).mono (by simp) |>.trans hR.below
    have hbo : Below w.heap.size w W' := (bal (bal (b0 w))).trans (hbw.mono (by omega))
    have hszw : (w.heap.size + 2) ≤ W'.heap.size := Nat.le_trans (by simp) hR.size
    obtain ⟨a0, b0', b1', b2', b3', d0', d1', d2', d3'⟩ := HC.out
    obtain ⟨k5, ka⟩ := HBK.out
    replace a0 := (hbo.cell k5).trans a0
    replace b0' := (hbo.cell ka).trans b0'
    replace b1' := (hbo.cell ka).trans b1'
    replace b2' := (hbo.cell ka).trans b2'
    replace b3' := (hbo.cell ka).trans b3'
    replace d0' := (hbo.cell ka).trans d0'
    replace d1' := (hbo.cell ka).trans d1'
    replace d2' := (hbo.cell ka).trans d2'
    replace d3' := (hbo.cell ka).trans d3'
    have hx : Blk W' w.heap.size 68 [.int .i64 (f : Int), .int .i64 (t : Int), .int .i64 x, .int .i64 xc] := (hbw.block _ (by omega)).trans HXC.out
    have e0 := hx.cell 0
    have e1 := hx.cell 1
    have e2 := hx.cell 2
    simp only [List.getElem?_cons_zero, List.getElem?_cons_succ] at e0 e1 e2
    clear hx k5 ka
    obtain rfl | rfl | rfl | rfl | rfl | rfl | rfl | rfl | rfl | rfl | rfl | rfl | rfl | rfl | rfl | rfl | rfl | rfl | rfl | rfl : j = 0 ∨ j = 1 ∨ j = 2 ∨ j = 3 ∨ j = 4 ∨ j = 5 ∨ j = 6 ∨ j = 7 ∨ j = 8 ∨ j = 9 ∨ j = 10 ∨ j = 11 ∨ j = 12 ∨ j = 13 ∨ j = 14 ∨ j = 15 ∨ j = 16 ∨ j = 17 ∨ j = 18 ∨ j = 19 := by omega
    · simp at ho
      subst ho
      simp [Region.binds] at hpre
      refine wpOpIn_step rfl (fun K' hK => ?_)
      simp only [Region.wanted]
      have HK := Lib.hid hK
      clear hK
      gi_wp2
      exact HK.out _ _ ⟨Value.slice (some ⟨ba, oa, none⟩) qa.length cva, by simp [upd, undef, Qx.v, Qx.zero, *], BRX.refl _ _, rfl, hG.gen (b0 _) (by omega) (by omega)⟩
    · simp at ho
      subst ho
      simp [Region.binds] at hpre
      refine wpOpIn_step rfl (fun K' hK => ?_)
      simp only [Region.wanted]
      have HK := Lib.hid hK
      clear hK
      gi_wp2
      exact HK.out _ _ ⟨Value.pointer (some ⟨w.heap.size, 0, none⟩), by simp [upd, undef, Qx.v, Qx.zero, *], BRX.refl _ _, rfl, hG.gen (b0 _) (by omega) (by omega)⟩
    · simp at ho
      subst ho
      simp [Region.binds] at hpre
      refine wpOpIn_step rfl (fun K' hK => ?_)
      simp only [Region.wanted]
      have HK := Lib.hid hK
      clear hK
      gi_wp2
      exact HK.out _ _ ⟨Value.int .i64 (f : Int), by simp [upd, undef, Qx.v, Qx.zero, *], BRX.refl _ _, rfl, hG.gen (b0 _) (by omega) (by omega)⟩
    · simp at ho
      subst ho
      simp [Region.binds] at hpre
      refine wpOpIn_step rfl (fun K' hK => ?_)
      simp only [Region.wanted]
      have HK := Lib.hid hK
      clear hK
      gi_wp2
      exact HK.out _ _ ⟨Value.pointer (some ⟨ba, oa + f * 4, none⟩), by simp [upd, undef, Qx.v, Qx.zero, *], BRX.refl _ _, rfl, hG.gen (b0 _) (by omega) (by omega)⟩
    · simp at ho
      subst ho
      simp [Region.binds] at hpre
      refine wpOpIn_step rfl (fun K' hK => ?_)
      simp only [Region.wanted]
      have HK := Lib.hid hK
      clear hK
      gi_wp2
      exact HK.out _ _ ⟨Value.agg #[.bool nf, .slice A1 l1 c1', .bool mf, .slice D1 e1' g1], by simp [upd, undef, Qx.v, Qx.zero, *], BRX.refl _ _, rfl, hG.gen (b0 _) (by omega) (by omega)⟩
    · simp at ho
      subst ho
      simp [Region.binds] at hpre
      refine wpOpIn_step rfl (fun K' hK => ?_)
      simp only [Region.wanted]
      have HK := Lib.hid hK
      clear hK
      gi_wp2
      exact HK.out _ _ ⟨Value.slice (some ⟨ba, oa, none⟩) qa.length cva, by simp [upd, undef, Qx.v, Qx.zero, *], BRX.refl _ _, rfl, hG.gen (b0 _) (by omega) (by omega)⟩
    · simp at ho
      subst ho
      simp [Region.binds] at hpre
      refine wpOpIn_step rfl (fun K' hK => ?_)
      simp only [Region.wanted]
      have HK := Lib.hid hK
      clear hK
      gi_wp2
      exact HK.out _ _ ⟨Value.pointer (some ⟨w.heap.size, 1, none⟩), by simp [upd, undef, Qx.v, Qx.zero, *], BRX.refl _ _, rfl, hG.gen (b0 _) (by omega) (by omega)⟩
    · simp at ho
      subst ho
      simp [Region.binds] at hpre
      refine wpOpIn_step rfl (fun K' hK => ?_)
      simp only [Region.wanted]
      have HK := Lib.hid hK
      clear hK
      gi_wp2
      exact HK.out _ _ ⟨Value.int .i64 (t : Int), by simp [upd, undef, Qx.v, Qx.zero, *], BRX.refl _ _, rfl, hG.gen (b0 _) (by omega) (by omega)⟩
    · simp at ho
      subst ho
      simp [Region.binds] at hpre
      refine wpOpIn_step rfl (fun K' hK => ?_)
      simp only [Region.wanted]
      have HK := Lib.hid hK
      clear hK
      gi_wp2
      exact HK.out _ _ ⟨Value.pointer (some ⟨ba, oa + t * 4, none⟩), by simp [upd, undef, Qx.v, Qx.zero, *], BRX.refl _ _, rfl, hG.gen (b0 _) (by omega) (by omega)⟩
    · simp at ho
      subst ho
      simp [Region.binds] at hpre
      refine wpOpIn_step rfl (fun K' hK => ?_)
      simp only [Region.wanted]
      have HK := Lib.hid hK
      clear hK
      gi_wp2
      exact HK.out _ _ ⟨Value.agg #[.bool nt, .slice A4 l2' c2', .bool mt, .slice D2 e2' g2], by simp [upd, undef, Qx.v, Qx.zero, *], BRX.refl _ _, rfl, hG.gen (b0 _) (by omega) (by omega)⟩
    · simp at ho
      subst ho
      simp [Region.binds] at hpre
      refine wpOpIn_step rfl (fun K' hK => ?_)
      simp only [Region.wanted]
      have HK := Lib.hid hK
      clear hK
      gi_wp2_with (gi_at_call 65; (with_reducible refine CallsIn.mono (callsIn_wide.2 (HSUB.out _ hbo)) ?_); rintro e w1 ⟨n7, A7, l7, c7, m7, D7, e7, g7, rfl, hb1, hr1⟩)
      refine HK.out _ _ ⟨(.agg #[.bool n7, .slice A7 l7 c7, .bool m7, .slice D7 e7 g7]), by simp [upd, undef, Qx.v, Qx.zero, *], BRX.of hb1 hszw, ⟨⟨n7, .slice A7 l7 c7, m7, .slice D7 e7 g7⟩, rfl, hr1.mono (fun b _ hk => Nat.le_trans hbo.size hk)⟩, hG.gen hb1 (by omega) (by omega)⟩
    · simp at ho
      subst ho
      simp [Region.binds] at hpre
      refine wpOpIn_step rfl (fun K' hK => ?_)
      simp only [Region.wanted]
      have HK := Lib.hid hK
      clear hK
      gi_wp2
      exact HK.out _ _ ⟨Value.pointer (some ⟨w.heap.size, 2, none⟩), by simp [upd, undef, Qx.v, Qx.zero, *], BRX.refl _ _, rfl, hG.gen (b0 _) (by omega) (by omega)⟩
    · simp at ho
      subst ho
      simp [Region.binds] at hpre
      refine wpOpIn_step rfl (fun K' hK => ?_)
      simp only [Region.wanted]
      have HK := Lib.hid hK
      clear hK
      gi_wp2
      exact HK.out _ _ ⟨Value.int .i64 x, by simp [upd, undef, Qx.v, Qx.zero, *], BRX.refl _ _, rfl, hG.gen (b0 _) (by omega) (by omega)⟩
    · simp at ho
      subst ho
      simp [Region.binds] at hpre
      have F := Lib.hid (fun W => @fromInt_q W x (by omega) (by omega))
      refine wpOpIn_step rfl (fun K' hK => ?_)
      simp only [Region.wanted]
      have HK := Lib.hid hK
      clear hK
      gi_wp2_with (gi_at_call 49; (with_reducible refine CallsIn.mono (callsIn_wide.2 (F.out _)) ?_); rintro e w1 ⟨n7, A7, l7, c7, m7, D7, e7, g7, rfl, hb1, hr1⟩)
      refine HK.out _ _ ⟨(.agg #[.bool n7, .slice A7 l7 c7, .bool m7, .slice D7 e7 g7]), by simp [upd, undef, Qx.v, Qx.zero, *], BRX.of hb1 hszw, ⟨⟨n7, .slice A7 l7 c7, m7, .slice D7 e7 g7⟩, rfl, hr1.mono (fun b _ hk => Nat.le_trans hbo.size hk)⟩, hG.gen hb1 (by omega) (by omega)⟩
    · simp at ho
      subst ho
      simp [Region.binds] at hpre
      obtain ⟨⟨_, p, q1, hp⟩, ⟨_, p', q2, hp'⟩⟩ := hpre
      obtain ⟨n5, ⟨A5, l5, c5⟩, m5, ⟨D5, e5, g5⟩, rfl⟩ := Qx.shape (isQc.slices hp)
      obtain ⟨n6, ⟨A6, l6, c6⟩, m6, ⟨D6, e6, g6⟩, rfl⟩ := Qx.shape (isQc.slices hp')
      simp only [Qx.v] at q1 q2 hp hp'
      have HDV := Lib.hid (div_q (isQc.q hp HQB.out) (isQc.q hp' HQX.out) (by omega) (by omega) (by omega) (by omega) HXR.out)
      rw [← HVAL.out] at HDV
      refine wpOpIn_step rfl (fun K' hK => ?_)
      simp only [Region.wanted]
      have HK := Lib.hid hK
      clear hK
      gi_wp2_with (gi_at_call 110; (with_reducible refine CallsIn.mono (callsIn_wide.2 HDV.out) ?_); rintro e w1 ⟨n7, A7, l7, c7, m7, D7, e7, g7, rfl, hb1, hr1⟩)
      refine HK.out _ _ ⟨.tuple #[(.agg #[.bool n7, .slice A7 l7 c7, .bool m7, .slice D7 e7 g7]), .int .i64 0], by simp [upd, undef, Qx.v, Qx.zero, *], BRX.of hb1 hszw, ⟨⟨n7, .slice A7 l7 c7, m7, .slice D7 e7 g7⟩, rfl, hr1.mono (fun b _ hk => Nat.le_trans hbo.size hk)⟩, hG.gen hb1 (by omega) (by omega)⟩
    · simp at ho
      subst ho
      simp [Region.binds] at hpre
      have hpre := hpre.2
      obtain ⟨p, e2', hp⟩ : (∃ p : Qx, u 14 = .tuple #[p.v, .int .i64 0] ∧ isQc (fun b => w.heap.size ≤ b) W' p.v val) := hpre
      obtain ⟨n5, ⟨A5, l5, c5⟩, m5, ⟨D5, e5, g5⟩, rfl⟩ := Qx.shape (isQc.slices hp)
      simp only [Qx.v] at e2' hp
      refine wpOpIn_step rfl (fun K' hK => ?_)
      simp only [Region.wanted]
      have HK := Lib.hid hK
      clear hK
      gi_wp2
      refine HK.out _ _ ⟨.tuple #[(.agg #[.bool n5, .slice A5 l5 c5, .bool m5, .slice D5 e5 g5]), .int .i64 0], by simp [upd, undef, Qx.v, Qx.zero, *], BRX.refl _ _, ⟨⟨n5, .slice A5 l5 c5, m5, .slice D5 e5 g5⟩, rfl, hp⟩, hG.gen (b0 _) (by omega) (by omega)⟩
    · simp at ho
      subst ho
      simp [Region.binds] at hpre
      have hpre := hpre.2
      obtain ⟨p, e2', hp⟩ : (∃ p : Qx, u 15 = .tuple #[p.v, .int .i64 0] ∧ isQc (fun b => w.heap.size ≤ b) W' p.v val) := hpre
      obtain ⟨n5, ⟨A5, l5, c5⟩, m5, ⟨D5, e5, g5⟩, rfl⟩ := Qx.shape (isQc.slices hp)
      simp only [Qx.v] at e2' hp
      refine wpOpIn_step rfl (fun K' hK => ?_)
      simp only [Region.wanted]
      have HK := Lib.hid hK
      clear hK
      gi_wp2
      refine HK.out _ _ ⟨(.agg #[.bool n5, .slice A5 l5 c5, .bool m5, .slice D5 e5 g5]), by simp [upd, undef, Qx.v, Qx.zero, *], BRX.refl _ _, ⟨⟨n5, .slice A5 l5 c5, m5, .slice D5 e5 g5⟩, rfl, hp⟩, hG.gen (b0 _) (by omega) (by omega)⟩
    · simp at ho
      subst ho
      simp [Region.binds] at hpre
      have hpre := hpre.2
      obtain ⟨p, e2', hp⟩ : (∃ p : Qx, u 15 = .tuple #[p.v, .int .i64 0] ∧ isQc (fun b => w.heap.size ≤ b) W' p.v val) := hpre
      obtain ⟨n5, ⟨A5, l5, c5⟩, m5, ⟨D5, e5, g5⟩, rfl⟩ := Qx.shape (isQc.slices hp)
      simp only [Qx.v] at e2' hp
      refine wpOpIn_step rfl (fun K' hK => ?_)
      simp only [Region.wanted]
      have HK := Lib.hid hK
      clear hK
      gi_wp2
      refine HK.out _ _ ⟨.int .i64 0, by simp [upd, undef, Qx.v, Qx.zero, *], BRX.refl _ _, rfl, hG.gen (b0 _) (by omega) (by omega)⟩
    · simp at ho
      subst ho
      simp [Region.binds] at hpre
      have hn13 : ¬ D 19 := fun h => hnD (hcl 19 _ rfl h ⟨18, .data⟩ (by simp) rfl)
      refine wpOpIn_step rfl (fun K' hK => ?_)
      simp only [Region.wanted]
      have HK := Lib.hid hK
      clear hK
      gi_wp2
      refine HK.out _ _ ⟨.pointer (some ⟨W'.heap.size, 0, none⟩), by simp [upd, undef, Qx.v, Qx.zero, *], BRX.of (bal (b0 _)) hszw, trivial, GboxX.new hszw hn13⟩
    · simp at ho
      subst ho
      have hpre0 := hpre
      simp [Region.binds] at hpre
      obtain ⟨p, e2', hp⟩ : (∃ p : Qx, u 16 = p.v ∧ isQc (fun b => w.heap.size ≤ b) W' p.v val) := (hpre0 ⟨16, .data⟩ (by simp) rfl).2
      obtain ⟨n5, ⟨A5, l5, c5⟩, m5, ⟨D5, e5, g5⟩, rfl⟩ := Qx.shape (isQc.slices hp)
      simp only [Qx.v] at e2' hp
      have hD12 : D 18 := (hpre0 ⟨18, .data⟩ (by simp) rfl).1
      obtain ⟨g, p0, e12, hg0, hg, hsl, _⟩ := hG hD12
      obtain ⟨zn, zA, zl, zc, zm, zB, zl2, zc2, z0, z1, z2, z3⟩ := four0 hg hsl
      simp only [Nat.zero_add] at z1 z2 z3
      have zf := fun j => hg.frozen j
      have hgl := hg.lt
      have HG := Lib.hid hg
      clear hpre hpre0 hG hg
      refine wpOpIn_step rfl (fun K' hK => ?_)
      simp only [Region.wanted]
      have HK := Lib.hid hK
      clear hK
      gi_wp2
      refine HK.out _ _ ⟨undef, by simp [upd, undef, Qx.v, Qx.zero, *], BRX.st4 (z := ⟨n5, .slice A5 l5 c5, m5, .slice D5 e5 g5⟩) HG.out hsl hg0, trivial, GboxX.store (z := ⟨n5, .slice A5 l5 c5, m5, .slice D5 e5 g5⟩) e12 hg0 HG.out hsl hp (by omega)⟩
  case fin =>
    intro u W' hR hY hG
    have g17 : u 17 = .int .i64 0 := hY 17 (by omega)
    obtain ⟨g, p, g18, hg0, hg, hsl, hpv⟩ := hG (show 18 < 20 by omega)
    have hp := hpv (show 19 < 20 by omega)
    obtain ⟨n5, ⟨A5, l5, c5⟩, m5, ⟨D5, e5, g5⟩, rfl⟩ := Qx.shape (isQc.slices hp)
    obtain ⟨z0, z1, z2, z3⟩ := four1 (n3 := .bool n5) (s3 := .slice A5 l5 c5) (m3 := .bool m5) (t3 := .slice D5 e5 g5) hg
    simp only [Qx.v] at hp
    have hbw : Below (w.heap.size + 2) ((w.alloc (Obj.cells #[.int .i64 (f : Int), .int .i64 (t : Int), .int .i64 x, .int .i64 xc] 68)).alloc (Obj.cells #[.bool false, .slice none 0 0, .bool false, .slice none 0 0] 44)) W' := (bdr (b0 ((w.alloc (Obj.cells #[.int .i64 (f : Int), .int .i64 (t : Int), .int .i64 x, .int .i64 xc] 68)).alloc (Obj.cells #[.bool false, .slice none 0 0, .bool false, .slice none 0 0] 44)))).mono (by simp) |>.trans hR.below
    have hbo : Below w.heap.size w W' := (bal (bal (b0 w))).trans (hbw.mono (by omega))
    have hz : Blk W' (w.heap.size + 1) 44 [.bool false, .slice none 0 0, .bool false, .slice none 0 0] := (hbw.block _ (by omega)).trans HZC.out
    have HPV := Lib.hid hp
    have HBO := Lib.hid hbo
    have hgl := hg.lt
    obtain ⟨w0', w1', w2', w3'⟩ := four1 (n3 := .bool false) (s3 := .slice none 0 0) (m3 := .bool false) (t3 := .slice none 0 0) hz
    have wf := fun j => hz.frozen j
    have hzl := hz.lt
    have ht4 := st4_blk0 (y := Qx.zero) (z := ⟨n5, .slice A5 l5 c5, m5, .slice D5 e5 g5⟩) hz
    have HEL := Lib.hid (st4_el0 (y := Qx.zero) (z := ⟨n5, .slice A5 l5 c5, m5, .slice D5 e5 g5⟩) (cqo_stable (fun b => w.heap.size ≤ b)) hz Qx.zero_sl hp)
    have HT4 := Lib.hid ht4
    clear hY hbo hR hg hG hpv hp hz hbw ht4
    refine wpTail_step (i' := 21) (c := 0) rfl ?_
    rw [g17, g18]
    refine wpOpIn_step rfl (fun K' hK => ?_)
    simp only [Region.wanted, List.getElem_toArray, List.getElem_cons_succ, List.getElem_cons_zero]
    have HK := Lib.hid hK
    clear hK
    gi_wp2
    refine HK.out _ _ (wpTail_end ?_)
    clear HK
    go_wp2
    obtain ⟨r0, r1, r2, r3⟩ := four1 (n3 := .bool n5) (s3 := .slice A5 l5 c5) (m3 := .bool m5) (t3 := .slice D5 e5 g5) HT4.out
    simp only [st4, Nat.zero_add] at r0 r1 r2 r3
    refine bodyPost_ret (v := .agg #[.bool n5, .slice A5 l5 c5, .bool m5, .slice D5 e5 g5]) ?_ rfl ⟨n5, A5, l5, c5, m5, D5, e5, g5, rfl, st4_belowB' HBO.out (b := w.heap.size + 1) (y := ⟨n5, .slice A5 l5 c5, m5, .slice D5 e5 g5⟩) (by omega), HEL.out⟩
    simp [results, Tryz.results108, go_sem, r0, r1, r2, r3]

end Go.Proofs.YtdkfdamihnieiaaGreat
end
section
/- shift.Factors. -/
open Go Go.RowKit Go.Shelf
namespace Go.Proofs.YtdkfdamihnieiaaGreat
open Go.Proofs
attribute [local go_sem] Oper.semAt_some wide_fn wide_depth
theorem fac_c {n0 B : Nat} {w : World} {p2 p3 p4 p5 i b n : Nat} {vo vr va : Value} {out : List Int} {refs : List Nat} {l : Ln} {qa : List Rat} (ho : Vi w vo out) (hr : Vi w vr (intsL refs)) (ha : Vq n0 (rq B) w va qa) (c2 : w.cell? ⟨p2, 0, none⟩ = some vo) (c3 : w.cell? ⟨p3, 0, none⟩ = some vr) (c4 : w.cell? ⟨p4, 0, none⟩ = some (.int .i64 (b : Int))) (c5 : w.cell? ⟨p5, 0, none⟩ = some va) (hl : lnIn n l) (hq : qa.length = n) (hB0 : 0 < B) (hB : B ≤ 100000000) :
    Calls Tryz.prog 108 #[.int .i64 (i : Int), .agg #[.int .i64 l.f, .int .i64 l.t, .int .i64 l.x, .int .i64 l.c], .pointer (some ⟨p2, 0, none⟩), .pointer (some ⟨p3, 0, none⟩), .pointer (some ⟨p4, 0, none⟩), .pointer (some ⟨p5, 0, none⟩)] w (RetQ w (fresh w) (facQ out refs i b l qa)) := by
  obtain ⟨h1, h2, h3, h4, h5, h6⟩ := hl
  obtain ⟨lf, lt, lx, lc⟩ := l
  simp only at h1 h2 h3 h4 h5 h6 ⊢
  obtain ⟨f, rfl⟩ := Int.eq_ofNat_of_zero_le h1
  obtain ⟨t, rfl⟩ := Int.eq_ofNat_of_zero_le h3
  unfold facQ
  by_cases hin : (i : Int) ∈ out ∨ (b : Int) ∈ intsL refs
  · rw [if_pos hin]; exact fac_z ho hr c2 c3 c4 hin
  · rw [if_neg hin]; exact fac_q ho hr ha c2 c3 c4 c5 hin (by omega) (by omega) h5 h6 hB0 hB
theorem colsL_width {m : List (List Rat)} {C : Nat} (hw : widthL m C) (h0 : 0 < m.length) : colsL m = C := by
  have key : ∀ k, k ≤ m.length → colsL (m.take k) = if k = 0 then 0 else C := by
    intro k
    induction k with
    | zero => intro _; simp [colsL]
    | succ k ih =>
      intro hk
      rw [colsL_take (by omega), ih (by omega), hw k (by omega)]
      split <;> simp
  have := key m.length (Nat.le_refl _)
  rw [List.take_length, if_neg (by omega)] at this
  exact this
theorem tableS_ok (n : Nat) (rs : List Nat) (ls : List Ln) (hls : ∀ l ∈ ls, lnIn n l) : (tableS n rs ls).length = n ∧ widthL (tableS n rs ls) n ∧ bndL (tableS n rs ls) (20 * ls.length + 1) := by
  unfold tableS
  obtain ⟨h1, h2, h3⟩ := lapM_ok n ls hls
  suffices ∀ (m : List (List Rat)), m.length = n → widthL m n → bndL m (20 * ls.length + 1) → (rs.foldl (fun m b => m.set b (unitL n b)) m).length = n ∧ widthL (rs.foldl (fun m b => m.set b (unitL n b)) m) n ∧ bndL (rs.foldl (fun m b => m.set b (unitL n b)) m) (20 * ls.length + 1) from this _ h1 h2 h3
  induction rs with
  | nil => intro m a b c; exact ⟨a, b, c⟩
  | cons r rs ih =>
    intro m a b c
    refine ih _ (by simp [a]) (b.set (by simp [unitL])) (c.set (fun k => (unit_qB n r k).mono (by omega)))
theorem invL_length (m : List (List Rat)) : (invL m).length = m.length := by unfold invL; rw [List.length_map, invR_length]
theorem invL_row (m : List (List Rat)) (i : Nat) : (invL m).getD i [] = ((invR m).1.getD i []).drop m.length := by
  unfold invL
  rw [List.getD_eq_getElem?_getD, List.getElem?_map, List.getD_eq_getElem?_getD]
  cases (invR m).1[i]? <;> simp
theorem invL_width (m : List (List Rat)) : widthL (invL m) m.length := by
  intro i hi
  rw [invL_length] at hi
  rw [invL_row, List.length_drop, invR_width m i (by rw [invR_length]; exact hi)]; omega
theorem invL_bnd {m : List (List Rat)} {B : Nat} (h : bndL m B) (hB : 2 ≤ B) : bndL (invL m) (5 ^ m.length * B) := by
  intro i k
  have := allS_bnd (wideI_bnd h (by omega)) hB m.length
  unfold atM
  rw [invL_row, List.getD_eq_getElem?_getD, List.getElem?_drop, ← List.getD_eq_getElem?_getD]
  exact this i (m.length + k)
theorem turnS_length (m : List (List Rat)) (C : Nat) : (turnS m C).length = C := by simp [turnS]
theorem turnS_row (m : List (List Rat)) {C j : Nat} (hj : j < C) : (turnS m C).getD j [] = (List.range m.length).map fun i => atM m i j := by
  unfold turnS; rw [List.getD_eq_getElem?_getD, List.getElem?_map, List.getElem?_range hj]; rfl
theorem turnS_width (m : List (List Rat)) (C : Nat) : widthL (turnS m C) m.length := by
  intro i hi
  rw [turnS_length] at hi
  rw [turnS_row m hi]; simp
theorem turnS_bnd {m : List (List Rat)} {C B : Nat} (h : bndL m B) (hB : 0 < B) : bndL (turnS m C) B := by
  intro i k
  unfold atM
  by_cases hi : i < C
  · rw [turnS_row m hi, List.getD_eq_getElem?_getD, List.getElem?_map]
    by_cases hk : k < m.length
    · rw [List.getElem?_range hk]; exact h k i
    · rw [List.getElem?_eq_none (by simp; omega)]; exact qB_zero hB
  · rw [List.getD_eq_getElem?_getD (l := turnS m C), List.getElem?_eq_none (by rw [turnS_length]; omega)]; exact qB_zero hB
/-- The flows on the lines by a bus. -/
def colF (n : Nat) (ls : List Ln) (out : List Int) (inv : List (List Rat)) (b : Nat) : List Rat :=
  (List.range ls.length).map fun i => facQ out (refsS n (servL ls out)) i b (ls.getD i Ln.zero) ((turnS inv n).getD b [])
def tabF (n : Nat) (ls : List Ln) (out : List Int) : List (List Rat) := tableS n (refsS n (servL ls out)) (servL ls out)
def facM (n : Nat) (ls : List Ln) (out : List Int) : List (List Rat) := turnS ((List.range n).map (colF n ls out (invL (tabF n ls out)))) ls.length
/-- A row that is read stands behind an append to a row of rows. -/
theorem Vq.appended {n0 base n : Nat} {W W3 : World} {sv v' v : Value} {q : List Rat} {xs : List Value} (hv : Vq n0 (cqo (okr sv)) W v q) (H : W.ownsRow base 26 1 sv n xs) (hn : n0 ≤ base) (hg : W.grownBy W3 sv.ownBlock) (hb : ∀ g, v'.ownBlock = some g → sv.ownBlock = some g ∨ W.heap.size ≤ g) : Vq n0 (cqo (okr v')) W3 v q := by
  obtain ⟨A', c', e', h'⟩ := hv
  refine ⟨A', c', e', h'.cap, h'.lim, fun h0 => ?_⟩
  obtain ⟨b, o, hA, hok, hc⟩ := h'.cells h0
  have hbl : b < W.heap.size := by
    obtain ⟨x, _, hcs⟩ := hc 0 h0
    have := hcs 0 (by omega)
    exact World.block_lt_of_cell? W ⟨b, _, none⟩ this
  have hbne : sv.ownBlock ≠ some b := by
    intro e
    rcases hok with h | ⟨cs, fz, h⟩
    · have := (H.lt b e).1; omega
    · obtain ⟨cs2, h2⟩ := own_cells H e
      rw [h2] at h; injection h with h; injection h with _ h _; exact absurd h (by decide)
  refine ⟨b, o, hA, hok.imp_right (fun ⟨cs, fz, h⟩ => ⟨cs, fz, (hg.block b hbl (fun e => hbne e.symm)).trans h⟩), fun j hj => ?_⟩
  obtain ⟨x, hx, hcs⟩ := hc j hj
  exact ⟨x, isQc.appended hx hg hb, fun i hi => (World.cell?_of_block (w := W) (a := ⟨b, o + j * 4 + i, none⟩) (hg.block b hbl (fun e => hbne e.symm))).trans (hcs i hi)⟩
theorem MatO.push {n0 base : Nat} {W W3 : World} {sv v' v : Value} {vs : List Value} {m : List (List Rat)} {q : List Rat} (H : MatO (okr sv) base n0 W sv vs m) (hn : n0 ≤ base) (hv : Vq n0 (cqo (okr sv)) W v q) (hown : W3.ownsRow base 26 1 v' (m.length + 1) (vs ++ [v])) (hg : W.grownBy W3 sv.ownBlock) (hb : ∀ g, v'.ownBlock = some g → sv.ownBlock = some g ∨ W.heap.size ≤ g) : MatO (okr v') base n0 W3 v' (vs ++ [v]) (m ++ [q]) := by
  have hl := H.len
  refine ⟨by rw [List.length_append, List.length_singleton]; exact hown, fun i hi => ?_⟩
  by_cases h : i < vs.length
  · rw [List.getElem_append_left h, (getD_snoc' m q [] i).1 (by omega)]
    exact (H.el i h).appended H.own hn hg hb
  · have : i = vs.length := by simp at hi; omega
    subst this
    rw [(getD_snoc' m q [] _).2 hl]
    simp only [List.getElem_append_right (Nat.le_refl _), Nat.sub_self, List.getElem_cons_zero]
    exact hv.appended H.own hn hg hb
end Go.Proofs.YtdkfdamihnieiaaGreat
end
