/- Contracts of package vec, part 16: Compare, Equal. -/
import Derived.Test.YtdkfdamihnieiaaGreatG15
set_option linter.unusedSimpArgs false
set_option linter.unusedVariables false
section
open Go Go.RowKit Go.Shelf
namespace Go.Proofs.YtdkfdamihnieiaaGreat
open Go.Proofs
attribute [local go_sem] Oper.semAt_some wide_fn wide_depth
/-- The first that is not 0. -/
def cmpL (R : Nat → Int) : List Nat → Int
  | [] => 0
  | k :: l => if R k = 0 then cmpL R l else R k
theorem cmpL_zero {R : Nat → Int} {l : List Nat} (h : ∀ k ∈ l, R k = 0) : cmpL R l = 0 := by
  induction l with
  | nil => rfl
  | cons k l ih => unfold cmpL; rw [if_pos (h k (by simp))]; exact ih (fun j hj => h j (by simp [hj]))
theorem cmpL_first {R : Nat → Int} {l r : List Nat} {k : Nat} (h : ∀ j ∈ l, R j = 0) (hk : R k ≠ 0) : cmpL R (l ++ k :: r) = R k := by
  induction l with
  | nil => show (if R k = 0 then cmpL R r else R k) = R k; rw [if_neg hk]
  | cons j l ih => rw [List.cons_append]; unfold cmpL; rw [if_pos (h j (by simp))]; exact ih (fun i hi => h i (by simp [hi]))
theorem cmpL_eq {R : Nat → Int} {l : List Nat} : cmpL R l = 0 ↔ ∀ k ∈ l, R k = 0 := by
  induction l with
  | nil => simp [cmpL]
  | cons k l ih =>
    unfold cmpL
    by_cases h : R k = 0
    · rw [if_pos h, ih]; simp [h]
    · rw [if_neg h]; simp [h]
def cmpq (a b : List Rat) : Int := cmpL (fun k => qs (a.getD k 0 - b.getD k 0)) (List.range (max a.length b.length))
theorem cmpq_zero {a b : List Rat} : cmpq a b = 0 ↔ ∀ k, a.getD k 0 = b.getD k 0 := by
  unfold cmpq
  rw [cmpL_eq]
  constructor
  · intro h k
    by_cases hk : k < max a.length b.length
    · have := qs_zero.1 (h k (List.mem_range.2 hk)); grind
    · rw [List.getD_eq_getElem?_getD, List.getD_eq_getElem?_getD, List.getElem?_eq_none (by omega), List.getElem?_eq_none (by omega)]
  · intro h k _
    rw [h k]; exact qs_zero.2 (by grind)
structure CmpI (w : World) (v : Int) (W : World) : Prop where
  bx : Blk W w.heap.size 3 [.int .i64 v]
  below : Below w.heap.size w W
  size : w.heap.size + 3 ≤ W.heap.size
theorem CmpI.grown {w v W W'} {row : Option Nat} (H : CmpI w v W) (hg : W.grownBy W' row) (hr : ∀ r, row = some r → w.heap.size + 2 ≤ r ∧ ∃ o : Obj, W.heap[r]? = some o ∧ o.isCells = false) : CmpI w v W' := by
  have hr2 : ∀ r, row = some r → ∃ o : Obj, W.heap[r]? = some o ∧ o.isCells = false := fun r e => (hr r e).2
  exact ⟨blk_grown H.bx hg hr2, below_from H.below (B := w.heap.size) (Nat.le_refl _) (Nat.le_trans (by omega) H.size) hg (fun r e => by have := (hr r e).1; omega), Nat.le_trans H.size hg.size⟩
set_option maxRecDepth 100000 in
set_option maxHeartbeats 4000000 in
theorem compare_c {n0 B : Nat} {w : World} {va vb : Value} {qa qb : List Rat} (ha : Vq n0 (rq B) w va qa) (hb : Vq n0 (rq B) w vb qb) (hB0 : 0 < B) (hB : B ≤ 400000000) :
    Calls Tryz.prog 96 #[va, vb] w (RetO w (.int .i64 (cmpq qa qb))) := by
  have hE := rq_ratl hB0
  obtain ⟨f, hva⟩ := ha.view hE
  obtain ⟨g, hvb⟩ := hb.view hE
  have shF := fun j => Qx.shape (hE.slices (hva.el j))
  have shG := fun j => Qx.shape (hE.slices (hvb.el j))
  obtain ⟨A1, l1, c1, rfl⟩ := ha.shape
  obtain ⟨A2, l2, c2, rfl⟩ := hb.shape
  refine (callsIn_wide (n := 10)).1 ?_
  refine callsIn_of_wp_marks Tryz.func96 rfl trivial ?_ rfl
  simp only [Tryz.ntmps96, List.size_toArray, List.length_cons, List.length_nil, Nat.reduceAdd, Nat.reduceSub, Array.replicate_succ, Array.replicate_zero, List.push_toArray, List.append_toArray, List.nil_append, List.cons_append]
  gi_wp2_with (gi_at_call 116; (with_reducible refine CallsIn.mono (callsIn_wide.2 both_c) ?_); rintro e w' ⟨rfl, rfl⟩)
  refine' wpIn_rangeFunc_ownH rfl (by omega) (gf := 184) (lb := #[.pointer (some ⟨w.heap.size + 1, 0, none⟩), .pointer (some ⟨w.heap.size + 1 + 1, 0, none⟩)]) rfl trivial (enters_of Tryz.func184 (by kernel_rfl) rfl)
    (both_stops (n := 9) (by omega) hE hva hvb ?p1 ?p2 ?p3)
    KB.trans ?p5 (Below.refl _ _) (fun _ => rfl)
    (fun pre W => CmpI w 0 W ∧ Hid (∀ x ∈ pre, qs (qa.getD x.val 0 - qb.getD x.val 0) = 0))
    (fun c pre W => c = .ret ∧ ∃ pre0 x, pre = pre0 ++ [x] ∧ CmpI w (qs (qa.getD x.val 0 - qb.getD x.val 0)) W ∧ Hid (∀ x ∈ pre0, qs (qa.getD x.val 0 - qb.getD x.val 0) = 0) ∧ qs (qa.getD x.val 0 - qb.getD x.val 0) ≠ 0) ?p6 ?p6x ?p7 (fun x a' W => ∃ b8, w.heap.size + 3 ≤ b8 ∧ a' = { tmps := #[.slice A1 l1 c1, .slice A2 l2 c2, undef, undef, .pointer (some ⟨w.heap.size, 0, none⟩), undef, .pointer (some ⟨b8, 0, none⟩), undef, .slice A1 l1 c1, .slice A2 l2 c2, .func (.func 184) #[] #[.pointer (some ⟨w.heap.size + 1, 0, none⟩), .pointer (some ⟨w.heap.size + 1 + 1, 0, none⟩)], .int .i64 (x.val : Int), (.agg #[.bool (f x).n, (f x).s, .bool (f x).m, (f x).t, .bool (g x).n, (g x).s, .bool (g x).m, (g x).t]), undef, undef, undef, undef, undef, undef, undef, undef], defers := [] } ∧ W.heap[b8]? = some (.cells #[.bool (f x).n, (f x).s, .bool (f x).m, (f x).t, .bool (g x).n, (g x).s, .bool (g x).m, (g x).t] 133 (0, 0)))
    ?pA ?assign ?body ?done ?stop
  case assign =>
    intro l pre x W K hI hK
    obtain ⟨HI, hz⟩ := hI
    have hsz := HI.size
    obtain ⟨fn, ⟨fA, fl, fc⟩, fm, ⟨fB, fl2, fc2⟩, hX⟩ := shF x.val
    obtain ⟨gn, ⟨gA, gl, gc⟩, gm, ⟨gB, gl2, gc2⟩, hY⟩ := shG x.val
    simp only [pr2, hX, hY] at hK ⊢
    gi_wp2
    refine hK _ _ ?_ ?_ ⟨HI.grown (World.grownBy_alloc _ _ none) (fun r e => by cases e), hz⟩ ⟨W.heap.size, by omega, rfl, heap_alloc_new _ _⟩
    · exact (KeepsOthers.alloc _ _).from _
    · exact KB.of (A := W) (bal (b0 W)) (by omega) (by omega) (by omega)
  case p1 =>
    exact (Below.heap_alloc _ _ _ (by simp)).trans (new_at _ _ (by simp))
  case p2 =>
    exact new_at _ _ (by simp)
  case p3 => exact bal (bal (bal (b0 w)))
  case p5 =>
    intro W l o o' hl hlo _ _
    simp at hl
    have hlt := (Array.getElem?_eq_some_iff.1 hlo).1
    exact ⟨by simp, below_putObj (Below.refl _ _) (by omega) (by omega), World.putObj_heap_other (by omega), World.putObj_heap_other (by omega)⟩
  case p6 =>
    rintro pre X Y row ⟨HI, hz⟩ hg hr
    exact ⟨HI.grown hg (fun r e => ⟨by have := (hr r e).1; simp at this; omega, (hr r e).2⟩), hz⟩
  case p6x =>
    rintro c pre X Y row ⟨hc, pre0, x, he, HI, hz, hne⟩ hg hr
    exact ⟨hc, pre0, x, he, HI.grown hg (fun r e => ⟨by have := (hr r e).1; simp at this; omega, (hr r e).2⟩), hz, hne⟩
  case pA =>
    rintro x a' u X Y row ⟨b8, h8, ha', hb8⟩ hg hr
    exact ⟨b8, h8, ha', box8_from hb8 hg (fun r e => (hr r e).2)⟩
  case p7 =>
    refine ⟨⟨?_, bal (bal (bal (b0 w))), by simp⟩, Lib.hid (fun x h => by cases h)⟩
    exact Blk.al (Blk.al (Blk.new _ [.int .i64 0] 3 rfl))
  case body =>
    rintro l pre x a' W hl hloop ⟨HI, hz⟩ ⟨b8, h8, rfl, hb8⟩ hlen
    obtain ⟨fn, ⟨fA, fl, fc⟩, fm, ⟨fB, fl2, fc2⟩, hX⟩ := shF x.val
    obtain ⟨gn, ⟨gA, gl, gc⟩, gm, ⟨gB, gl2, gc2⟩, hY⟩ := shG x.val
    simp only [hX, hY] at hb8 ⊢
    have elF := hva.el x.val
    have elG := hvb.el x.val
    rw [hX] at elF
    rw [hY] at elG
    simp only [Qx.v] at elF elG
    have hbW : Below w.heap.size w W := HI.below
    have hc8 : ∀ i, W.cell? ⟨b8, i, none⟩ = (#[Value.bool fn, .slice fA fl fc, .bool fm, .slice fB fl2 fc2, .bool gn, .slice gA gl gc, .bool gm, .slice gB gl2 gc2] : Array Value)[i]? := fun i => cell_of_row W _ i _ 133 (0, 0) hb8
    have x0 := hc8 0
    have x1 := hc8 1
    have x2 := hc8 2
    have x3 := hc8 3
    have x4 := hc8 4
    have x5 := hc8 5
    have x6 := hc8 6
    have x7 := hc8 7
    simp only [List.getElem?_toArray, List.getElem?_cons_zero, List.getElem?_cons_succ] at x0 x1 x2 x3 x4 x5 x6 x7
    have HF := Lib.hid (fun W' (h : Below w.heap.size w W') => cmp_q (hE.below elF h) (hE.below elG h) hB0 hB0 hB hB)
    obtain ⟨v, hv⟩ : ∃ v, v = qs (qa.getD x.val 0 - qb.getD x.val 0) := ⟨_, rfl⟩
    rw [← hv] at HF
    have HV := Lib.hid hv
    clear hc8 hv
    have HII := Lib.hid HI
    have hszW := HI.size
    clear HI hb8 elF elG
    by_cases hv0 : v = 0
    · subst hv0
      gi_wp2_with (gi_at_call 31; (with_reducible refine CallsIn.mono (CallsIn.inRound l (callsIn_wide.2 (HF.out _ hbW))) ?_); rintro e w1 ⟨rfl, hb1⟩; have hz0 := (HII.out.bx.below hb1).cell 0; have hzf := fun j => (HII.out.bx.below hb1).frozen j; simp only [List.getElem?_cons_zero] at hz0)
      refine ⟨(keeps_below hb1).from _, KB.of hb1 (by omega) (by omega) (by omega), ⟨HII.out.bx.below hb1, bthen HII.out.below hb1, Nat.le_trans hszW hb1.size⟩, Lib.hid (fun y hy => ?_)⟩
      rcases List.mem_append.1 hy with hy | hy
      · exact hz.out y hy
      · rw [List.mem_singleton.1 hy]; exact HV.out.symm
    · have hne : (v == 0) = false := by simpa using hv0
      have hne2 : (v != 0) = true := by simpa using hv0
      gi_wp2_with (gi_at_call 31; (with_reducible refine CallsIn.mono (CallsIn.inRound l (callsIn_wide.2 (HF.out _ hbW))) ?_); rintro e w1 ⟨rfl, hb1⟩; have hz0 := (HII.out.bx.below hb1).cell 0; have hzf := fun j => (HII.out.bx.below hb1).frozen j; simp only [List.getElem?_cons_zero] at hz0)
      refine ⟨((keeps_below hb1).trans (KeepsOthers.setCell _ _ _)).from _, rfl, pre, x, rfl, ⟨?_, (bthen HII.out.below hb1).setCell (by simp) _, ?_⟩, hz, ?_⟩
      · rw [← HV.out]; exact (HII.out.bx.below hb1).set 0 _
      · have := hb1.size; simp [World.setCell]; omega
      · rw [← HV.out]; exact hv0
  case done =>
    rintro D xs W hD rfl ⟨HI, hz⟩ hdef
    have z0 := HI.bx.cell 0
    have zf := fun j => HI.bx.frozen j
    have hsW := HI.size
    simp only [List.getElem?_cons_zero] at z0
    gi_wp2
    have hdef' := (KeepsOthers.setCell W ⟨w.heap.size, 0, none⟩ (.int .i64 0)).same D _ hdef rfl
    refine ⟨by simp, .inl ⟨_, _, rfl, run_takeDeferred hdef', ?_⟩⟩
    have H2 := blk_grown (HI.bx.set 0 (.int .i64 0)) (grownBy_putObj' _ D (.deferred none)) (fun r e => by
      injection e with e; subst e
      exact ⟨_, hdef', rfl⟩)
    have t0 := H2.cell 0
    simp only [List.set_cons_zero, List.getElem?_cons_zero] at t0
    refine ⟨.int .i64 0, ?_, ?_, ?_⟩
    · simp [results, Tryz.results96, go_sem, t0]
    · rw [show cmpq qa qb = 0 from cmpL_zero (fun k hk => hz.out ⟨k, List.mem_range.1 hk⟩ (List.mem_finRange _))]
    · have hD' : w.heap.size + 3 ≤ D := by simpa using hD
      exact below_putObj (HI.below.setCell (by simp) _) (by simp [World.setCell]; omega) (by omega)
  case stop =>
    rintro D c pre W hD hSp ⟨rfl, pre0, x, rfl, HI, hz, hne⟩ hdef
    have z0 := HI.bx.cell 0
    have zf := fun j => HI.bx.frozen j
    have hsW := HI.size
    simp only [List.getElem?_cons_zero] at z0
    gi_wp2
    have hdef' := hdef
    refine ⟨by simp, .inl ⟨_, _, rfl, run_takeDeferred hdef', ?_⟩⟩
    have H2 := blk_grown HI.bx (grownBy_putObj' _ D (.deferred none)) (fun r e => by
      injection e with e; subst e
      exact ⟨_, hdef', rfl⟩)
    have t0 := H2.cell 0
    simp only [List.getElem?_cons_zero] at t0
    refine ⟨.int .i64 (qs (qa.getD x.val 0 - qb.getD x.val 0)), ?_, ?_, ?_⟩
    · simp [results, Tryz.results96, go_sem, t0]
    · obtain ⟨r, hr⟩ := hSp
      rw [show cmpq qa qb = qs (qa.getD x.val 0 - qb.getD x.val 0) from ?_]
      unfold cmpq
      have hl : List.range (max qa.length qb.length) = pre0.map (fun y => y.val) ++ x.val :: r.map (fun y => y.val) := by
        have h1 := map_finRange (max qa.length qb.length) (fun k => k)
        have h2 : (plc (max qa.length qb.length)).map (fun y => y.val) = List.range (max qa.length qb.length) := by unfold plc; simpa using h1
        rw [← h2, ← hr]; simp
      rw [hl]
      exact cmpL_first (fun j hj => by
        obtain ⟨y, hy, rfl⟩ := List.mem_map.1 hj
        exact hz.out y hy) hne
    · have hD' : w.heap.size + 3 ≤ D := by simpa using hD
      exact below_putObj HI.below (by omega) (by omega)
theorem equal_c {n0 B : Nat} {w : World} {va vb : Value} {qa qb : List Rat} (ha : Vq n0 (rq B) w va qa) (hb : Vq n0 (rq B) w vb qb) (hB0 : 0 < B) (hB : B ≤ 400000000) :
    Calls Tryz.prog 34 #[va, vb] w (RetO w (.bool (decide (cmpq qa qb = 0)))) := by
  have HC := Lib.hid (compare_c ha hb hB0 hB)
  obtain ⟨z, hz⟩ : ∃ z, z = cmpq qa qb := ⟨_, rfl⟩
  rw [← hz] at HC ⊢
  clear hz ha hb
  go_enter Tryz.func34, Tryz.ntmps34
  go_wp2_with (go_at_call 96; (with_reducible refine Calls.mono HC.out ?_); rintro e w1 ⟨rfl, hb1⟩)
  go_ret
  exact ⟨by by_cases h : z = 0 <;> simp [h], hb1⟩
end Go.Proofs.YtdkfdamihnieiaaGreat
end
section
/- Package node: Trade. -/
open Go Go.RowKit Go.Shelf
namespace Go.Proofs.YtdkfdamihnieiaaGreat
open Go.Proofs
attribute [local go_sem] Oper.semAt_some wide_fn wide_depth
set_option maxRecDepth 100000 in
set_option maxHeartbeats 4000000 in
/-- Trade where both buses are there. -/
theorem trade_c {n0 B : Nat} {ok : Nat → Prop} {w : World} {vp vq : Value} {ps : List Rat} {q : Rat} (h : Vq n0 (rq B) w vp ps) (hq : isQ ok w vq q B) (f t : Nat) (hf : f < ps.length) (ht : t < ps.length) (hB0 : 0 < B) (hB : B ≤ 100000000) :
    Calls Tryz.prog 114 #[vp, .int .i64 (f : Int), .int .i64 (t : Int), vq] w (RetQE w (fun _ => True) (q * (ps.getD t 0 - ps.getD f 0))) := by
  have hE := rq_ratl hB0
  have hE3 : ∀ {W v q}, rq B W v q → qB q B := fun h => isQ.size h hB0
  obtain ⟨n1, A1, l1, c1, m1, D1, e1, g1, rfl⟩ := hq.shape
  obtain ⟨A, l, c, rfl⟩ := h.shape
  obtain rfl := h.len_eq
  have hlm : ps.length ≤ 9223372036854775807 := by have h1 := h.rv.cap; have h2 := h.rv.lim; unfold maxLen at h2; omega
  obtain ⟨bp, op, tn, ts, tm, tt, rfl, elt, x0, x1, x2, x3⟩ := h.elem ht
  obtain ⟨bp', op', fn, fs, fm, ft, e, elf, v0, v1, v2, v3⟩ := h.elem hf
  injection e with e; injection e with e1' e2' _; subst e1' e2'
  obtain ⟨⟨A2, l2, c2, rfl⟩, D2, e2, g2, rfl⟩ := hE.slices elt
  obtain ⟨⟨A3, l3, c3, rfl⟩, D3, e3, g3, rfl⟩ := hE.slices elf
  obtain ⟨l, hl⟩ : ∃ l, l = ps.length := ⟨_, rfl⟩
  rw [← hl] at hf ht hlm ⊢
  have kk : ∀ (W' : World), Below w.heap.size w W' → ∀ (a : Addr) (u : Value), w.cell? a = some u → W'.cell? a = some u := fun W' hb a u h => (hb.cell (World.block_lt_of_cell? w _ h)).trans h
  clear hl
  refine (callsIn_wide (n := 10)).1 ?_
  refine callsIn_of_wp Tryz.func114 rfl trivial ?_ rfl
  simp only [Tryz.ntmps114, List.size_toArray, List.length_cons, List.length_nil, Nat.reduceAdd, Nat.reduceSub, Array.replicate_succ, Array.replicate_zero, List.push_toArray, List.append_toArray, List.nil_append, List.cons_append]
  gi_wp2
  refine wpIn_region_Y (by kernel_rfl) (by kernel_rfl) 11 2 rfl (by kernel_rfl) (fun u => { tmps := #[.slice (some ⟨bp, op, none⟩) l c, .int .i64 (f : Int), .int .i64 (t : Int), (.agg #[.bool n1, .slice A1 l1 c1, .bool m1, .slice D1 e1 g1]), undef, undef, undef, .pointer (some ⟨w.heap.size, 0, none⟩), .pointer (some ⟨w.heap.size + 1, 0, none⟩), .int .i64 0, .int .i64 (f : Int), .bool false, .bool false, .int .i64 (f : Int), .slice (some ⟨bp, op, none⟩) l c, .int .i64 (l : Int), .bool false, .bool false, .bool false, .int .i64 (t : Int), .bool false, .bool false, .bool false, .int .i64 (t : Int), .slice (some ⟨bp, op, none⟩) l c, .int .i64 (l : Int), .bool false, .bool false, undef, u 0, u 1, u 2, u 3, u 4, u 5, u 6, u 7, u 8, u 9, u 10], defers := [] }) (fun _ => undef) rfl (fun W1 W2 => Below W1.heap.size W1 W2) (fun _ => Below.refl _ _) (fun h1 h2 => bthen h1 h2)
    (fun k v W1 => match k with
      | 0 => v = (.agg #[.bool n1, .slice A1 l1 c1, .bool m1, .slice D1 e1 g1])
      | 1 => v = .slice (some ⟨bp, op, none⟩) l c
      | 2 => v = .int .i64 (t : Int)
      | 3 => v = .pointer (some ⟨bp, op + t * 4, none⟩)
      | 4 => v = (.agg #[.bool tn, .slice A2 l2 c2, .bool tm, .slice D2 e2 g2])
      | 5 => v = .slice (some ⟨bp, op, none⟩) l c
      | 6 => v = .int .i64 (f : Int)
      | 7 => v = .pointer (some ⟨bp, op + f * 4, none⟩)
      | 8 => v = (.agg #[.bool fn, .slice A3 l3 c3, .bool fm, .slice D3 e3 g3])
      | 9 => ∃ p : Qx, v = p.v ∧ isQc (fun _ => True) W1 p.v (ps.getD t 0 - ps.getD f 0)
      | 10 => ∃ p : Qx, v = p.v ∧ isQc (fun b => w.heap.size + 2 ≤ b) W1 p.v (q * (ps.getD t 0 - ps.getD f 0))
      | _ => True) ?hY ?step ?fin
  case hY =>
    intro k v W1 W2 h hb
    match k, h with
    | 0, h => exact h
    | 1, h => exact h
    | 2, h => exact h
    | 3, h => exact h
    | 4, h => exact h
    | 5, h => exact h
    | 6, h => exact h
    | 7, h => exact h
    | 8, h => exact h
    | 9, ⟨p, e, h⟩ => exact ⟨p, e, isQc.below h hb⟩
    | 10, ⟨p, e, h⟩ => exact ⟨p, e, isQc.below h hb⟩
    | k + 11, h => trivial
  case step =>
    intro u W' j o hj ho hR hpre
    have hbw : Below ((w.alloc (Obj.cells #[Value.bool n1, .slice A1 l1 c1, .bool m1, .slice D1 e1 g1] 44)).alloc (Obj.cells #[Value.bool false, .slice none 0 0, .bool false, .slice none 0 0] 44)).heap.size ((w.alloc (Obj.cells #[Value.bool n1, .slice A1 l1 c1, .bool m1, .slice D1 e1 g1] 44)).alloc (Obj.cells #[Value.bool false, .slice none 0 0, .bool false, .slice none 0 0] 44)) W' := bthen (bdr (b0 ((w.alloc (Obj.cells #[Value.bool n1, .slice A1 l1 c1, .bool m1, .slice D1 e1 g1] 44)).alloc (Obj.cells #[Value.bool false, .slice none 0 0, .bool false, .slice none 0 0] 44)))) hR
    have hbo : Below w.heap.size w W' := (bal (bal (b0 w))).trans (hbw.mono (by simp; omega))
    have y0 := kk _ hbo _ _ x0
    have y1 := kk _ hbo _ _ x1
    have y2 := kk _ hbo _ _ x2
    have y3 := kk _ hbo _ _ x3
    have z0 := kk _ hbo _ _ v0
    have z1 := kk _ hbo _ _ v1
    have z2 := kk _ hbo _ _ v2
    have z3 := kk _ hbo _ _ v3
    obtain ⟨q0, q1, q2, q3⟩ := four1 (n3 := .bool n1) (s3 := .slice A1 l1 c1) (m3 := .bool m1) (t3 := .slice D1 e1 g1) ((Blk.al (Blk.new4 (W := w) (T := 44) rfl)).below hbw)
    obtain rfl | rfl | rfl | rfl | rfl | rfl | rfl | rfl | rfl | rfl | rfl : j = 0 ∨ j = 1 ∨ j = 2 ∨ j = 3 ∨ j = 4 ∨ j = 5 ∨ j = 6 ∨ j = 7 ∨ j = 8 ∨ j = 9 ∨ j = 10 := by omega
    · simp at ho
      subst ho
      simp [Region.binds] at hpre
      refine wpOpIn_step rfl (fun K' hK => ?_)
      simp only [Region.wanted]
      have HK := Lib.hid hK
      clear hK
      gi_wp2
      exact HK.out _ _ ⟨(.agg #[.bool n1, .slice A1 l1 c1, .bool m1, .slice D1 e1 g1]), by simp [upd, undef, *], Below.refl _ _, rfl⟩
    · simp at ho
      subst ho
      simp [Region.binds] at hpre
      refine wpOpIn_step rfl (fun K' hK => ?_)
      simp only [Region.wanted]
      have HK := Lib.hid hK
      clear hK
      gi_wp2
      exact HK.out _ _ ⟨.slice (some ⟨bp, op, none⟩) l c, by simp [upd, undef, *], Below.refl _ _, rfl⟩
    · simp at ho
      subst ho
      simp [Region.binds] at hpre
      refine wpOpIn_step rfl (fun K' hK => ?_)
      simp only [Region.wanted]
      have HK := Lib.hid hK
      clear hK
      gi_wp2
      exact HK.out _ _ ⟨.int .i64 (t : Int), by simp [upd, undef, *], Below.refl _ _, rfl⟩
    · simp at ho
      subst ho
      simp [Region.binds] at hpre
      refine wpOpIn_step rfl (fun K' hK => ?_)
      simp only [Region.wanted]
      have HK := Lib.hid hK
      clear hK
      gi_wp2
      exact HK.out _ _ ⟨.pointer (some ⟨bp, op + t * 4, none⟩), by simp [upd, undef, *], Below.refl _ _, rfl⟩
    · simp at ho
      subst ho
      simp [Region.binds] at hpre
      refine wpOpIn_step rfl (fun K' hK => ?_)
      simp only [Region.wanted]
      have HK := Lib.hid hK
      clear hK
      gi_wp2
      exact HK.out _ _ ⟨(.agg #[.bool tn, .slice A2 l2 c2, .bool tm, .slice D2 e2 g2]), by simp [upd, undef, *], Below.refl _ _, rfl⟩
    · simp at ho
      subst ho
      simp [Region.binds] at hpre
      refine wpOpIn_step rfl (fun K' hK => ?_)
      simp only [Region.wanted]
      have HK := Lib.hid hK
      clear hK
      gi_wp2
      exact HK.out _ _ ⟨.slice (some ⟨bp, op, none⟩) l c, by simp [upd, undef, *], Below.refl _ _, rfl⟩
    · simp at ho
      subst ho
      simp [Region.binds] at hpre
      refine wpOpIn_step rfl (fun K' hK => ?_)
      simp only [Region.wanted]
      have HK := Lib.hid hK
      clear hK
      gi_wp2
      exact HK.out _ _ ⟨.int .i64 (f : Int), by simp [upd, undef, *], Below.refl _ _, rfl⟩
    · simp at ho
      subst ho
      simp [Region.binds] at hpre
      refine wpOpIn_step rfl (fun K' hK => ?_)
      simp only [Region.wanted]
      have HK := Lib.hid hK
      clear hK
      gi_wp2
      exact HK.out _ _ ⟨.pointer (some ⟨bp, op + f * 4, none⟩), by simp [upd, undef, *], Below.refl _ _, rfl⟩
    · simp at ho
      subst ho
      simp [Region.binds] at hpre
      refine wpOpIn_step rfl (fun K' hK => ?_)
      simp only [Region.wanted]
      have HK := Lib.hid hK
      clear hK
      gi_wp2
      exact HK.out _ _ ⟨(.agg #[.bool fn, .slice A3 l3 c3, .bool fm, .slice D3 e3 g3]), by simp [upd, undef, *], Below.refl _ _, rfl⟩
    · simp at ho
      subst ho
      simp [Region.binds] at hpre
      have HF := Lib.hid (sub_q (hE.below elt hbo) (hE.below elf hbo) hB0 hB0 (by omega) (by omega))
      refine wpOpIn_step rfl (fun K' hK => ?_)
      simp only [Region.wanted]
      have HK := Lib.hid hK
      clear hK
      gi_wp2_with (gi_at_call 65; (with_reducible refine CallsIn.mono (callsIn_wide.2 HF.out) ?_); rintro e w1 ⟨n4, A4, l4, c4, m4, D4, e4, g4, rfl, hb1, hr1⟩)
      refine HK.out _ _ ⟨(.agg #[.bool n4, .slice A4 l4 c4, .bool m4, .slice D4 e4 g4]), by simp [upd, undef, *], hb1, ⟨n4, .slice A4 l4 c4, m4, .slice D4 e4 g4⟩, rfl, hr1.any⟩
    · simp at ho
      subst ho
      simp [Region.binds] at hpre
      obtain ⟨e1', p, e2', hp⟩ : (u 0 = (.agg #[.bool n1, .slice A1 l1 c1, .bool m1, .slice D1 e1 g1]) ∧ ∃ p : Qx, u 9 = p.v ∧ isQc (fun _ => True) W' p.v (ps.getD t 0 - ps.getD f 0)) := hpre
      obtain ⟨n5, ⟨A5, l5, c5⟩, m5, ⟨D5, e5, g5⟩, rfl⟩ := Qx.shape (isQc.slices hp)
      simp only [Qx.v] at e2' hp
      have HF := Lib.hid (mul_q (hq.below hbo) (hp.q (qB_sub (hE3 elt) (hE3 elf))) hB0 (by omega) (by omega) (by omega))
      refine wpOpIn_step rfl (fun K' hK => ?_)
      simp only [Region.wanted]
      have HK := Lib.hid hK
      clear hK
      gi_wp2_with (gi_at_call 48; (with_reducible refine CallsIn.mono (callsIn_wide.2 HF.out) ?_); rintro e w1 ⟨n4, A4, l4, c4, m4, D4, e4, g4, rfl, hb1, hr1⟩)
      refine HK.out _ _ ⟨(.agg #[.bool n4, .slice A4 l4 c4, .bool m4, .slice D4 e4 g4]), by simp [upd, undef, *], hb1, ⟨n4, .slice A4 l4 c4, m4, .slice D4 e4 g4⟩, rfl, hr1.mono (fun b _ hb => by have := hbw.size; simp [fresh] at hb this; omega)⟩
  case fin =>
    intro u W' hR hY
    have hbw : Below ((w.alloc (Obj.cells #[Value.bool n1, .slice A1 l1 c1, .bool m1, .slice D1 e1 g1] 44)).alloc (Obj.cells #[Value.bool false, .slice none 0 0, .bool false, .slice none 0 0] 44)).heap.size ((w.alloc (Obj.cells #[Value.bool n1, .slice A1 l1 c1, .bool m1, .slice D1 e1 g1] 44)).alloc (Obj.cells #[Value.bool false, .slice none 0 0, .bool false, .slice none 0 0] 44)) W' := bthen (bdr (b0 ((w.alloc (Obj.cells #[Value.bool n1, .slice A1 l1 c1, .bool m1, .slice D1 e1 g1] 44)).alloc (Obj.cells #[Value.bool false, .slice none 0 0, .bool false, .slice none 0 0] 44)))) hR
    obtain ⟨p, e10, hp⟩ := hY 10 (by omega)
    obtain ⟨n5, ⟨A5, l5, c5⟩, m5, ⟨D5, e5, g5⟩, rfl⟩ := Qx.shape (isQc.slices hp)
    simp only [Qx.v] at e10 hp
    have hz := (Blk.new4 (W := w.alloc (Obj.cells #[Value.bool n1, .slice A1 l1 c1, .bool m1, .slice D1 e1 g1] 44)) (n := w.heap.size + 1) (T := 44) (x := .bool false) (y := .slice none 0 0) (z := .bool false) (u := .slice none 0 0) (by simp)).below hbw
    obtain ⟨z0, z1, z2, z3⟩ := four1 hz
    have zf := fun j => hz.frozen j
    have hbo : Below w.heap.size w W' := (bal (bal (b0 w))).trans (hbw.mono (by simp; omega))
    have hsz := hbw.size
    simp at hsz
    have HP := Lib.hid hp
    have HBO := Lib.hid hbo
    clear hY hz hp hbo hR hbw kk
    refine wpTail_step (i' := 12) (c := 1) rfl ?_
    rw [e10]
    refine wpOpIn_step rfl (fun K' hK => ?_)
    simp only [Region.wanted, List.getElem_toArray, List.getElem_cons_succ, List.getElem_cons_zero]
    have HK := Lib.hid hK
    clear hK
    gi_wp2
    refine HK.out _ _ ?_
    clear HK
    refine wpTail_step (i' := 13) (c := 0) rfl ?_
    refine wpOpIn_step rfl (fun K' hK => ?_)
    simp only [Region.wanted, List.getElem_toArray, List.getElem_cons_succ, List.getElem_cons_zero]
    have HK := Lib.hid hK
    clear hK
    gi_wp2
    refine HK.out _ _ (wpTail_end ?_)
    clear HK
    gi_wp2
    refine bodyPost_ret (v := .tuple #[.agg #[.bool n5, .slice A5 l5 c5, .bool m5, .slice D5 e5 g5], .int .i64 0]) ?_ rfl ?_
    · simp [results, Tryz.results114, go_sem, z0, z1, z2, z3]
    · have hr := RetQE.set4 (W := (w.alloc (Obj.cells #[Value.bool n1, .slice A1 l1 c1, .bool m1, .slice D1 e1 g1] 44)).alloc (Obj.cells #[Value.bool false, .slice none 0 0, .bool false, .slice none 0 0] 44)) (b := w.heap.size + 1) HBO.out (HP.out.mono (fun b _ hb => by simp [fresh]; omega)) (by omega) (by simp)
      obtain ⟨a1, a2, a3, a4, a5, a6, a7, a8, h1, h2, h3⟩ := hr
      exact ⟨a1, a2, a3, a4, a5, a6, a7, a8, h1, h2, h3.any⟩
end Go.Proofs.YtdkfdamihnieiaaGreat
end
section
/- Package right: put; node.Trade with a wrong bus. -/
open Go Go.RowKit Go.Shelf
namespace Go.Proofs.YtdkfdamihnieiaaGreat
open Go.Proofs
attribute [local go_sem] Oper.semAt_some wide_fn wide_depth
theorem trade_e {w : World} {A : Option Addr} {l c : Nat} {n m : Bool} {A1 D1 : Option Addr} {l1 c1 e1 g1 : Nat} (f t : Int) (h : ¬ (0 ≤ f ∧ f < l ∧ 0 ≤ t ∧ t < l)) (hl : l ≤ 9223372036854775807) :
    Calls Tryz.prog 114 #[.slice A l c, .int .i64 f, .int .i64 t, .agg #[.bool n, .slice A1 l1 c1, .bool m, .slice D1 e1 g1]] w fun e w' => e = .returned (.tuple #[Qx.zero.v, .int .i64 1]) ∧ Below w.heap.size w w' := by
  have fin : ∀ {a : Act}, True := fun {_} => trivial
  by_cases h1 : f < 0
  · go_enter Tryz.func114, Tryz.ntmps114
    go_wp2
    refine bodyPost_ret (v := .tuple #[Qx.zero.v, .int .i64 1]) ?_ rfl ⟨rfl, bal (bal (b0 _))⟩
    simp [results, Tryz.results114, go_sem, Qx.v, Qx.zero]
  by_cases h2 : f ≥ l
  · go_enter Tryz.func114, Tryz.ntmps114
    go_wp2
    refine bodyPost_ret (v := .tuple #[Qx.zero.v, .int .i64 1]) ?_ rfl ⟨rfl, bal (bal (b0 _))⟩
    simp [results, Tryz.results114, go_sem, Qx.v, Qx.zero]
  by_cases h3 : t < 0
  · go_enter Tryz.func114, Tryz.ntmps114
    go_wp2
    refine bodyPost_ret (v := .tuple #[Qx.zero.v, .int .i64 1]) ?_ rfl ⟨rfl, bal (bal (b0 _))⟩
    simp [results, Tryz.results114, go_sem, Qx.v, Qx.zero]
  have h4 : t ≥ l := by omega
  clear h
  go_enter Tryz.func114, Tryz.ntmps114
  go_wp2
  refine bodyPost_ret (v := .tuple #[Qx.zero.v, .int .i64 1]) ?_ rfl ⟨rfl, bal (bal (b0 _))⟩
  simp [results, Tryz.results114, go_sem, Qx.v, Qx.zero]
/-- The ends that are put. -/
structure Ends (W : World) (eb N : Nat) (z : Nat → Int) (y : Nat → Qx) (r : Nat → Rat) : Prop where
  cell : ∀ i, i < N → W.cell? ⟨eb, i * 5, none⟩ = some (.int .i64 (z i)) ∧ W.cell? ⟨eb, i * 5 + 1, none⟩ = some (.bool (y i).n) ∧ W.cell? ⟨eb, i * 5 + 2, none⟩ = some (y i).s ∧ W.cell? ⟨eb, i * 5 + 3, none⟩ = some (.bool (y i).m) ∧ W.cell? ⟨eb, i * 5 + 4, none⟩ = some (y i).t
  el : ∀ i, i < N → cq W (y i).v (r i)
theorem Ends.below {W W' eb N z y r} (H : Ends W eb N z y r) (hb : Below W.heap.size W W') : Ends W' eb N z y r := by
  have kk : ∀ (a : Addr) (u : Value), W.cell? a = some u → W'.cell? a = some u := fun a u h => (hb.cell (World.block_lt_of_cell? W _ h)).trans h
  refine ⟨fun i hi => ?_, fun i hi => cq_stable.below (H.el i hi) hb⟩
  obtain ⟨h0, h1, h2, h3, h4⟩ := H.cell i hi
  exact ⟨kk _ _ h0, kk _ _ h1, kk _ _ h2, kk _ _ h3, kk _ _ h4⟩
theorem Ends.st4 {W eb N z y r} (H : Ends W eb N z y r) {w0 : World} {b : Nat} {qs : List Rat} {l : List Qx} (M : MadeR w0 W b qs l) {k : Nat} (hk : k < l.length) {x : Qx} (hne : eb ≠ b) : Ends (YtdkfdamihnieiaaGreat.st4 W b (k * 4) x) eb N z y r := by
  have kk : ∀ (o : Nat) (u : Value), W.cell? ⟨eb, o, none⟩ = some u → (YtdkfdamihnieiaaGreat.st4 W b (k * 4) x).cell? ⟨eb, o, none⟩ = some u := fun o u h => (World.cell?_of_block (w := W) (a := ⟨eb, o, none⟩) (st4_heap hne)).trans h
  refine ⟨fun i hi => ?_, fun i hi => st4_el cq_stable M.blk hk (M.slices hk) (H.el i hi)⟩
  obtain ⟨h0, h1, h2, h3, h4⟩ := H.cell i hi
  exact ⟨kk _ _ h0, kk _ _ h1, kk _ _ h2, kk _ _ h3, kk _ _ h4⟩
/-- One end. -/
def putq (qs : List Rat) (z : Int) (r : Rat) : List Rat := if 0 ≤ z ∧ z < qs.length then qs.set z.toNat (qs.getD z.toNat 0 + r) else qs
theorem putq_length (qs : List Rat) (z : Int) (r : Rat) : (putq qs z r).length = qs.length := by unfold putq; split <;> simp
def putN (qs : List Rat) (z : Nat → Int) (r : Nat → Rat) : Nat → List Rat
  | 0 => qs
  | k + 1 => putq (putN qs z r k) (z k) (r k)
theorem putN_length (qs : List Rat) (z : Nat → Int) (r : Nat → Rat) (k : Nat) : (putN qs z r k).length = qs.length := by
  induction k with
  | zero => rfl
  | succ k ih => unfold putN; rw [putq_length, ih]
set_option maxRecDepth 100000 in
set_option maxHeartbeats 4000000 in
theorem rput_c {w0 w : World} {b eb N : Nat} {qs0 : List Rat} {l : List Qx} {z : Nat → Int} {y : Nat → Qx} {r : Nat → Rat} {B : Nat} (M : MadeR w0 w b qs0 l) (H : Ends w eb N z y r) (hne : eb ≠ b) (hN : N ≤ 1000000) (hlq : qs0.length ≤ 1000000)
    (hB0 : 0 < B) (hB : B ≤ 400000000) (hBr : ∀ k, qB (r k) B) (hBq : ∀ k j, k ≤ N → qB ((putN qs0 z r k).getD j 0) B) :
    Calls Tryz.prog 141 #[.slice (some ⟨b, 0, none⟩) qs0.length qs0.length, .slice (some ⟨eb, 0, none⟩) N N] w fun e w' => (∃ v, e = .returned v) ∧ w.heap.size ≤ w'.heap.size ∧ ∃ l', MadeR w0 w' b (putN qs0 z r N) l' := by
  refine (callsIn_wide (n := 10)).1 ?_
  refine callsIn_of_wp Tryz.func141 rfl trivial ?_ rfl
  simp only [Tryz.ntmps141, List.size_toArray, List.length_cons, List.length_nil, Nat.reduceAdd, Nat.reduceSub, Array.replicate_succ, Array.replicate_zero, List.push_toArray, List.append_toArray, List.nil_append, List.cons_append]
  have HBr := Lib.hid hBr
  have HBq := Lib.hid hBq
  have HM := Lib.hid M
  have HE := Lib.hid H
  clear hBr hBq M H
  gi_wp2
  gi_loopw [8] (fun iv wr => ∃ (k : Nat) (l' : List Qx), k ≤ N ∧ iv = .int .i64 (k : Int) ∧ Hid (MadeR w0 wr b (putN qs0 z r k) l') ∧ Hid (Ends wr eb N z y r) ∧ w.heap.size ≤ wr.heap.size) (fun iv _ => N - (intOf iv).toNat)
  case atStart => exact ⟨0, l, by omega, rfl, HM, HE, Nat.le_refl _⟩
  case round =>
    obtain ⟨k, l', hk, rfl, HM', HE', hsz⟩ := hrel
    clear HM HE
    by_cases hlt : k < N
    · obtain ⟨d0, d1, d2, d3, d4⟩ := HE'.out.cell k hlt
      have hy := HE'.out.el k hlt
      have hBq := HBq.out k
      obtain ⟨qs, hqs⟩ : ∃ qs, qs = putN qs0 z r k := ⟨_, rfl⟩
      have hql : qs0.length = qs.length := by rw [hqs, putN_length]
      rw [← hqs] at HM' hBq
      rw [hql] at hlq ⊢
      have HQ := Lib.hid hqs
      clear hqs
      obtain ⟨n1, ⟨A1, l1, c1⟩, m1, ⟨D1, e1, g1⟩, hY⟩ := Qx.shape (isQc.slices hy)
      rw [hY] at d1 d2 d3 d4 hy
      simp only [Qx.v] at d1 d2 d3 d4 hy
      obtain ⟨zk, hzk⟩ : ∃ zk, zk = z k := ⟨_, rfl⟩
      rw [← hzk] at d0
      have HZ := Lib.hid hzk
      clear hzk
      obtain ⟨wo, rfl⟩ : ∃ wo : World, wo = wr := ⟨_, rfl⟩
      have hlb := World.block_lt_of_cell? wo _ d0
      simp only at hlb
      by_cases hz0 : zk ≥ 0
      · obtain ⟨x, rfl⟩ : ∃ x : Nat, zk = x := ⟨zk.toNat, by omega⟩
        by_cases hxl : x < qs.length
        · have hxl' : (x : Int) < (qs.length : Int) := by omega
          have hxl2 : x < l'.length := by have := HM'.out.len; omega
          obtain ⟨m, m', p, q, ⟨k0, k1, k2, k3⟩, hel⟩ := HM'.out.four hxl2
          have hf := HM'.out.frozen
          have kk : ∀ (W' : World), Below wo.heap.size wo W' → ∀ (a : Addr) (u : Value), wo.cell? a = some u → W'.cell? a = some u := fun W' hb a u h => (hb.cell (World.block_lt_of_cell? wo _ h)).trans h
          have HM := HM'
          have hlbb := HM'.out.blk.lt
          gi_wp2
          refine wpIn_region_Y (by kernel_rfl) (by kernel_rfl) 11 2 rfl (by kernel_rfl) (fun u => { tmps := #[.slice (some ⟨b, 0, none⟩) qs.length qs.length, .slice (some ⟨eb, 0, none⟩) N N, undef, undef, undef, .pointer (some ⟨wo.heap.size, 0, none⟩), .slice (some ⟨eb, 0, none⟩) N N, .int .i64 (N : Int), .int .i64 (k : Int), .bool true, .pointer (some ⟨eb, k * 5, none⟩), .agg #[.int .i64 (x : Int), .bool n1, .slice A1 l1 c1, .bool m1, .slice D1 e1 g1], .pointer (some ⟨wo.heap.size, 0, none⟩), .int .i64 (x : Int), .bool true, .bool true, .pointer (some ⟨wo.heap.size, 0, none⟩), .int .i64 (x : Int), .slice (some ⟨b, 0, none⟩) qs.length qs.length, .int .i64 (qs.length : Int), .bool true, .bool true, u 0, u 1, u 2, u 3, u 4, u 5, u 6, u 7, u 8, u 9, u 10, u 11, u34], defers := [] }) (fun k => #[u22, u23, u24, u25, u26, u27, u28, u29, u30, u31, u32, u33].getD k undef) rfl (fun W1 W2 => Below W1.heap.size W1 W2) (fun _ => Below.refl _ _) (fun h1 h2 => bthen h1 h2)
            (fun j9 v W1 => match j9 with
              | 0 => v = .slice (some ⟨b, 0, none⟩) qs.length qs.length
              | 1 => v = .pointer (some ⟨wo.heap.size, 0, none⟩)
              | 2 => v = .int .i64 (x : Int)
              | 3 => v = .slice (some ⟨b, 0, none⟩) qs.length qs.length
              | 4 => v = .pointer (some ⟨wo.heap.size, 0, none⟩)
              | 5 => v = .int .i64 (x : Int)
              | 6 => v = .pointer (some ⟨b, x * 4, none⟩)
              | 7 => v = .agg #[.bool m, .slice p.1 p.2.1 p.2.2, .bool m', .slice q.1 q.2.1 q.2.2]
              | 8 => v = .pointer (some ⟨wo.heap.size, 1, none⟩)
              | 9 => v = (.agg #[.bool n1, .slice A1 l1 c1, .bool m1, .slice D1 e1 g1])
              | 10 => ∃ p : Qx, v = p.v ∧ isQc (fun _ => True) W1 p.v (qs.getD x 0 + r k)
              | _ => True) ?hY ?step ?fin
          case hY =>
            intro k v W1 W2 h hb
            match k, h with
            | 0, h => exact h
            | 1, h => exact h
            | 2, h => exact h
            | 3, h => exact h
            | 4, h => exact h
            | 5, h => exact h
            | 6, h => exact h
            | 7, h => exact h
            | 8, h => exact h
            | 9, h => exact h
            | 10, ⟨p, e, h⟩ => exact ⟨p, e, isQc.below h hb⟩
            | k + 11, h => trivial
          case step =>
            intro u W' j o hj ho hR hpre
            have hbw : Below (wo.alloc (Obj.cells #[.int .i64 (x : Int), Value.bool n1, .slice A1 l1 c1, .bool m1, .slice D1 e1 g1] 158)).heap.size (wo.alloc (Obj.cells #[.int .i64 (x : Int), Value.bool n1, .slice A1 l1 c1, .bool m1, .slice D1 e1 g1] 158)) W' := bthen (bdr (b0 (wo.alloc (Obj.cells #[.int .i64 (x : Int), Value.bool n1, .slice A1 l1 c1, .bool m1, .slice D1 e1 g1] 158)))) hR
            have hbo : Below wo.heap.size wo W' := (bal (b0 wo)).trans (hbw.mono (by simp))
            have HM' := HM.out.later hbo
            have y0 := kk _ hbo _ _ k0
            have y1 := kk _ hbo _ _ k1
            have y2 := kk _ hbo _ _ k2
            have y3 := kk _ hbo _ _ k3
            have hz := (Blk.new wo [.int .i64 (x : Int), Value.bool n1, .slice A1 l1 c1, .bool m1, .slice D1 e1 g1] 158 rfl).below hbw
            have z0 := hz.cell 0
            have z1 := hz.cell 1
            have z2 := hz.cell 2
            have z3 := hz.cell 3
            have z4 := hz.cell 4
            simp only [List.getElem?_cons_zero, List.getElem?_cons_succ] at z0 z1 z2 z3 z4
            obtain rfl | rfl | rfl | rfl | rfl | rfl | rfl | rfl | rfl | rfl | rfl : j = 0 ∨ j = 1 ∨ j = 2 ∨ j = 3 ∨ j = 4 ∨ j = 5 ∨ j = 6 ∨ j = 7 ∨ j = 8 ∨ j = 9 ∨ j = 10 := by omega
            · simp at ho
              subst ho
              simp [Region.binds] at hpre
              refine wpOpIn_step rfl (fun K' hK => ?_)
              simp only [Region.wanted]
              have HK := Lib.hid hK
              clear hK
              gi_wp2
              exact HK.out _ _ ⟨.slice (some ⟨b, 0, none⟩) qs.length qs.length, by simp [upd, undef, *], Below.refl _ _, rfl⟩
            · simp at ho
              subst ho
              simp [Region.binds] at hpre
              refine wpOpIn_step rfl (fun K' hK => ?_)
              simp only [Region.wanted]
              have HK := Lib.hid hK
              clear hK
              gi_wp2
              exact HK.out _ _ ⟨.pointer (some ⟨wo.heap.size, 0, none⟩), by simp [upd, undef, *], Below.refl _ _, rfl⟩
            · simp at ho
              subst ho
              simp [Region.binds] at hpre
              refine wpOpIn_step rfl (fun K' hK => ?_)
              simp only [Region.wanted]
              have HK := Lib.hid hK
              clear hK
              gi_wp2
              exact HK.out _ _ ⟨.int .i64 (x : Int), by simp [upd, undef, *], Below.refl _ _, rfl⟩
            · simp at ho
              subst ho
              simp [Region.binds] at hpre
              refine wpOpIn_step rfl (fun K' hK => ?_)
              simp only [Region.wanted]
              have HK := Lib.hid hK
              clear hK
              gi_wp2
              exact HK.out _ _ ⟨.slice (some ⟨b, 0, none⟩) qs.length qs.length, by simp [upd, undef, *], Below.refl _ _, rfl⟩
            · simp at ho
              subst ho
              simp [Region.binds] at hpre
              refine wpOpIn_step rfl (fun K' hK => ?_)
              simp only [Region.wanted]
              have HK := Lib.hid hK
              clear hK
              gi_wp2
              exact HK.out _ _ ⟨.pointer (some ⟨wo.heap.size, 0, none⟩), by simp [upd, undef, *], Below.refl _ _, rfl⟩
            · simp at ho
              subst ho
              simp [Region.binds] at hpre
              refine wpOpIn_step rfl (fun K' hK => ?_)
              simp only [Region.wanted]
              have HK := Lib.hid hK
              clear hK
              gi_wp2
              exact HK.out _ _ ⟨.int .i64 (x : Int), by simp [upd, undef, *], Below.refl _ _, rfl⟩
            · simp at ho
              subst ho
              simp [Region.binds] at hpre
              refine wpOpIn_step rfl (fun K' hK => ?_)
              simp only [Region.wanted]
              have HK := Lib.hid hK
              clear hK
              gi_wp2
              exact HK.out _ _ ⟨.pointer (some ⟨b, x * 4, none⟩), by simp [upd, undef, *], Below.refl _ _, rfl⟩
            · simp at ho
              subst ho
              simp [Region.binds] at hpre
              refine wpOpIn_step rfl (fun K' hK => ?_)
              simp only [Region.wanted]
              have HK := Lib.hid hK
              clear hK
              gi_wp2
              exact HK.out _ _ ⟨.agg #[.bool m, .slice p.1 p.2.1 p.2.2, .bool m', .slice q.1 q.2.1 q.2.2], by simp [upd, undef, *], Below.refl _ _, rfl⟩
            · simp at ho
              subst ho
              simp [Region.binds] at hpre
              refine wpOpIn_step rfl (fun K' hK => ?_)
              simp only [Region.wanted]
              have HK := Lib.hid hK
              clear hK
              gi_wp2
              exact HK.out _ _ ⟨.pointer (some ⟨wo.heap.size, 1, none⟩), by simp [upd, undef, *], Below.refl _ _, rfl⟩
            · simp at ho
              subst ho
              simp [Region.binds] at hpre
              refine wpOpIn_step rfl (fun K' hK => ?_)
              simp only [Region.wanted]
              have HK := Lib.hid hK
              clear hK
              gi_wp2
              exact HK.out _ _ ⟨(.agg #[.bool n1, .slice A1 l1 c1, .bool m1, .slice D1 e1 g1]), by simp [upd, undef, *], Below.refl _ _, rfl⟩
            · simp at ho
              subst ho
              simp [Region.binds] at hpre
              have HF := Lib.hid (add_q ((cq_stable.below hel hbo).q (hBq _ (by omega))) ((cq_stable.below hy hbo).q (HBr.out k)) hB0 hB0 hB hB)
              refine wpOpIn_step rfl (fun K' hK => ?_)
              simp only [Region.wanted]
              have HK := Lib.hid hK
              clear hK
              gi_wp2_with (gi_at_call 29; (with_reducible refine CallsIn.mono (callsIn_wide.2 HF.out) ?_); rintro e w1 ⟨n4, A4, l4, c4, m4, D4, e4, g4, rfl, hb1, hr1⟩)
              refine HK.out _ _ ⟨(.agg #[.bool n4, .slice A4 l4 c4, .bool m4, .slice D4 e4 g4]), by simp [upd, undef, *], hb1, ⟨n4, .slice A4 l4 c4, m4, .slice D4 e4 g4⟩, rfl, hr1.any⟩
          case fin =>
            intro u W' hR hY
            have hbw : Below (wo.alloc (Obj.cells #[.int .i64 (x : Int), Value.bool n1, .slice A1 l1 c1, .bool m1, .slice D1 e1 g1] 158)).heap.size (wo.alloc (Obj.cells #[.int .i64 (x : Int), Value.bool n1, .slice A1 l1 c1, .bool m1, .slice D1 e1 g1] 158)) W' := bthen (bdr (b0 (wo.alloc (Obj.cells #[.int .i64 (x : Int), Value.bool n1, .slice A1 l1 c1, .bool m1, .slice D1 e1 g1] 158)))) hR
            have hbo : Below wo.heap.size wo W' := (bal (b0 wo)).trans (hbw.mono (by simp))
            have g0 : u 0 = .slice (some ⟨b, 0, none⟩) qs.length qs.length := hY 0 (by omega)
            have g2 : u 2 = .int .i64 (x : Int) := hY 2 (by omega)
            obtain ⟨p', g10, hp⟩ := hY 10 (by omega)
            obtain ⟨n5, ⟨A5, l5, c5⟩, m5, ⟨D5, e5, g5⟩, rfl⟩ := Qx.shape (isQc.slices hp)
            simp only [Qx.v] at g10 hp
            have HM2 := HM.out.later hbo
            have HE2 := HE'.out.below hbo
            obtain ⟨m2, m2', p2, q2, ⟨s0, s1, s2, s3⟩, _⟩ := HM2.four hxl2
            have sf := HM2.frozen
            have hszo := hbo.size
            have hlbb2 := HM2.blk.lt
            have hst := HM2.set (k := x) (y := ⟨n5, .slice A5 l5 c5, m5, .slice D5 e5 g5⟩) hxl2 hp
            have hes := HE2.st4 HM2 hxl2 (x := ⟨n5, .slice A5 l5 c5, m5, .slice D5 e5 g5⟩) hne
            have HST := Lib.hid hst
            have HES := Lib.hid hes
            clear hY hp HM2 HE2 hst hes hR hbw kk hel hy hBq d0 d1 d2 d3 d4 k0 k1 k2 k3 hf
            refine wpTail_step (i' := 12) (c := 1) rfl ?_
            rw [g0, g2, g10]
            refine wpOpIn_step rfl (fun K' hK => ?_)
            simp only [Region.wanted, List.getElem_toArray, List.getElem_cons_succ, List.getElem_cons_zero]
            have HK := Lib.hid hK
            clear hK
            gi_wp2
            refine HK.out _ _ ?_
            clear HK
            refine wpTail_step (i' := 13) (c := 0) rfl ?_
            refine wpOpIn_step rfl (fun K' hK => ?_)
            simp only [Region.wanted, List.getElem_toArray, List.getElem_cons_succ, List.getElem_cons_zero]
            have HK := Lib.hid hK
            clear hK
            gi_wp2
            refine HK.out _ _ (wpTail_end ?_)
            clear HK
            gi_wp2
            go_roundw
            case rel =>
              refine ⟨k + 1, l'.set x ⟨n5, .slice A5 l5 c5, m5, .slice D5 e5 g5⟩, by omega, val_int (by omega), Lib.hid ?_, Lib.hid HES.out, ?_⟩
              · show MadeR w0 _ b (putq (putN qs0 z r k) (z k) (r k)) _
                rw [← HQ.out, ← HZ.out]
                unfold putq
                rw [if_pos ⟨by omega, by omega⟩, Int.toNat_natCast]
                exact HST.out
              · simp [World.setCell]; omega
            case measure => simp [intOf]; omega
        · have hxl' : ¬ (x : Int) < (qs.length : Int) := by omega
          have hx2 : decide ((x : Int) < (qs.length : Int)) = false := by simpa using hxl
          have HMo := HM'
          gi_wp2
          go_roundw
          case rel =>
            refine ⟨k + 1, l', by omega, val_int (by omega), Lib.hid ?_, Lib.hid (HE'.out.below (bal (b0 _))), by simp; omega⟩
            show MadeR w0 _ b (putq (putN qs0 z r k) (z k) (r k)) _
            rw [← HQ.out, ← HZ.out]
            unfold putq
            rw [if_neg (by omega)]
            exact HM'.out.later (bal (b0 _))
          case measure => simp [intOf]; omega
      · gi_wp2
        go_roundw
        case rel =>
          refine ⟨k + 1, l', by omega, val_int (by omega), Lib.hid ?_, Lib.hid (HE'.out.below (bal (b0 _))), by simp; omega⟩
          show MadeR w0 _ b (putq (putN qs0 z r k) (z k) (r k)) _
          rw [← HQ.out, ← HZ.out]
          unfold putq
          rw [if_neg (by omega)]
          exact HM'.out.later (bal (b0 _))
        case measure => simp [intOf]; omega
    · obtain rfl : k = N := by omega
      gi_wp2
      go_end0
      exact ⟨⟨_, rfl⟩, hsz, l', HM'.out⟩
end Go.Proofs.YtdkfdamihnieiaaGreat
end
