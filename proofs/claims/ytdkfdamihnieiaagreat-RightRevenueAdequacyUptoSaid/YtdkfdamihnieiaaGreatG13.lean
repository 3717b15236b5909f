/- Contracts of package vec, part 5: with. -/
import Derived.Test.YtdkfdamihnieiaaGreatG10
import Derived.RangeFuncNested
import Derived.Test.YtdkfdamihnieiaaGreatG12
set_option linter.unusedSimpArgs false
set_option linter.unusedVariables false
section
open Go Go.RowKit Go.Shelf
namespace Go.Proofs.YtdkfdamihnieiaaGreat
open Go.Proofs
attribute [local go_sem] Oper.semAt_some wide_fn wide_depth
/-- Blocks that are not the row's. -/
def okr (sv : Value) : Nat → Prop := fun b => sv.ownBlock ≠ some b
/-- And not below h. -/
def okf (h : Nat) (sv : Value) : Nat → Prop := fun b => okr sv b ∧ h ≤ b
/-- The row so far. -/
structure WthI (h : Nat) (w : World) (fv : Value) (qs : List Rat) (W : World) (sv : Value) (l : List Qx) : Prop where
  box : W.heap[h + 1]? = some (.cells #[sv] 26 (0, 0))
  fbox : W.heap[h]? = some (.cells #[fv] 45 (0, 0))
  own : W.ownsRow (h + 4) 44 4 sv qs.length (qcs l)
  len : l.length = qs.length
  el : ∀ j (hj : j < l.length), isQc (okf h sv) W (l[j]).v (qs.getD j 0)
  below : Below h w W
  size : h + 4 ≤ W.heap.size
theorem WthI.grown {h w fv qs W W' sv l} {row : Option Nat} (H : WthI h w fv qs W sv l) (hh : h = w.heap.size) (hg : W.grownBy W' row) (hr : ∀ r, row = some r → h + 4 ≤ r ∧ ∃ o : Obj, W.heap[r]? = some o ∧ o.isCells = false) : WthI h w fv qs W' sv l := by
  have hr2 : ∀ r, row = some r → ∃ o : Obj, W.heap[r]? = some o ∧ o.isCells = false := fun r e => (hr r e).2
  refine ⟨box_from H.box hg hr2, box_from H.fbox hg hr2, H.own.kept hg ?_, H.len, fun j hj => (H.el j hj).grown hg hr2, below_from H.below (B := h) (Nat.le_refl _) (Nat.le_trans (by omega) H.size) hg (fun r e => by have := (hr r e).1; omega), Nat.le_trans H.size hg.size⟩
  rcases H.own.2 with ⟨e, _⟩ | ⟨g, cap, cur, e, _, hgg, _⟩
  · left; rw [e]; rfl
  · right; rw [e]; intro e2
    obtain ⟨o, ho, hc⟩ := hr2 g e2.symm
    rw [hgg] at ho; cases ho; cases hc
theorem row_below {w w' : World} {base : Nat} {e : TypeId} {size : Nat} {v : Value} {n : Nat} {xs : List Value} (h : w.ownsRow base e size v n xs) (hb : Below w.heap.size w w') : w'.ownsRow base e size v n xs := by
  refine ⟨h.1, ?_⟩
  rcases h.2 with h2 | ⟨g, cap, cur, hv, hg, hh, rest⟩
  · exact .inl h2
  · exact .inr ⟨g, cap, cur, hv, hg, (hb.block g (Array.getElem?_eq_some_iff.1 hh).1).trans hh, rest⟩
theorem keeps_below {w w' : World} (hb : Below w.heap.size w w') : KeepsOthers w w' := ⟨hb.size, fun k o hk _ => (hb.block k (Array.getElem?_eq_some_iff.1 hk).1).trans hk⟩
theorem map_snoc {α : Type} (l : List α) (x : α) (f : α → Rat) (j : Nat) : (j < l.length → ((l ++ [x]).map f).getD j 0 = (l.map f).getD j 0) ∧ (j = l.length → ((l ++ [x]).map f).getD j 0 = f x) := by
  constructor
  · intro h
    simp [List.getElem?_append_left, h]
  · rintro rfl
    simp
/-- An element stands behind an append to its row. -/
theorem isQc.appended {W W1 : World} {sv v' v : Value} {q : Rat} (h : isQc (okr sv) W v q) (hg : W.grownBy W1 sv.ownBlock) (hb : ∀ g, v'.ownBlock = some g → sv.ownBlock = some g ∨ W.heap.size ≤ g) : isQc (okr v') W1 v q := by
  have h1 : isQc (fun k => okr sv k ∧ k < W.heap.size) W v q := h.mono (fun b hb hk => ⟨hk, hb⟩)
  have h2 : isQc (fun k => okr sv k ∧ k < W.heap.size) W1 v q := by
    cases ho : sv.ownBlock with
    | none => rw [ho] at hg; exact h1.grown hg (fun r e => by cases e)
    | some g =>
      rw [ho] at hg
      exact h1.row hg (fun b hk e => by subst e; exact hk.1 ho)
  refine h2.mono (fun b _ hk => ?_)
  intro e
  rcases hb b e with h3 | h3
  · exact hk.1 h3
  · have := hk.2; omega
theorem isQc.appendedF {h : Nat} {W W1 : World} {sv v' v : Value} {q : Rat} (hq : isQc (okf h sv) W v q) (hg : W.grownBy W1 sv.ownBlock) (hb : ∀ g, v'.ownBlock = some g → sv.ownBlock = some g ∨ W.heap.size ≤ g) : isQc (okf h v') W1 v q := by
  have h1 : isQc (fun k => okf h sv k ∧ k < W.heap.size) W v q := hq.mono (fun b hb hk => ⟨hk, hb⟩)
  have h2 : isQc (fun k => okf h sv k ∧ k < W.heap.size) W1 v q := by
    cases ho : sv.ownBlock with
    | none => rw [ho] at hg; exact h1.grown hg (fun r e => by cases e)
    | some g =>
      rw [ho] at hg
      exact h1.row hg (fun b hk e => by subst e; exact hk.1.1 ho)
  refine h2.mono (fun b _ hk => ⟨?_, hk.1.2⟩)
  intro e
  rcases hb b e with h3 | h3
  · exact hk.1.1 h3
  · have := hk.2; omega
theorem Qx.shape {x : Qx} (h : (∃ A l c, x.s = .slice A l c) ∧ (∃ A l c, x.t = .slice A l c)) : ∃ n, ∃ (p : Option Addr × Nat × Nat) (m : Bool) (q : Option Addr × Nat × Nat), x = ⟨n, .slice p.1 p.2.1 p.2.2, m, .slice q.1 q.2.1 q.2.2⟩ := by
  obtain ⟨⟨A, l, c, h1⟩, A2, l2, c2, h2⟩ := h
  obtain ⟨n, s, m, t⟩ := x
  simp only at h1 h2
  subst h1 h2
  exact ⟨n, (A, l, c), m, (A2, l2, c2), rfl⟩
theorem box8_from {w W' : World} {k : Nat} {cs : Array Value} {T : TypeId} {row : Option Nat} (h : w.heap[k]? = some (.cells cs T (0, 0))) (hg : w.grownBy W' row) (hr : ∀ r, row = some r → ∃ o : Obj, w.heap[r]? = some o ∧ o.isCells = false) : W'.heap[k]? = some (.cells cs T (0, 0)) := by
  refine (hg.block k (Array.getElem?_eq_some_iff.1 h).1 (fun e => ?_)).trans h
  obtain ⟨o, ho, hc⟩ := hr k e.symm
  rw [h] at ho; cases ho; cases hc
set_option maxRecDepth 100000 in
set_option maxHeartbeats 4000000 in
theorem with_f {n0 : Nat} {E : Elt} (hE : Ratl E) {w : World} {va vb : Value} {qa qb : List Rat} (ha : Vq n0 E w va qa) (hb : Vq n0 E w vb qb) (gf : Nat) (lb : Array Value) (R : Nat → Rat) (eg : ∀ args w, (callFunc gf args).run Tryz.prog w = .ok (.enter gf args) w)
    (hf : ∀ W vx vy k, Below w.heap.size w W → E W vx (qa.getD k 0) → E W vy (qb.getD k 0) → Calls Tryz.prog gf (#[vx, vy] ++ lb) W (RetQ W (fresh W) (R k)))
    (hla : qa.length ≤ 1000000000) (hlb : qb.length ≤ 1000000000) :
    Calls Tryz.prog 94 #[va, vb, .func (.func gf) #[] lb] w (RetVF w n0 ((List.range (max qa.length qb.length)).map R)) := by
  obtain ⟨f, hva⟩ := ha.view hE
  obtain ⟨g, hvb⟩ := hb.view hE
  have shF := fun j => Qx.shape (hE.slices (hva.el j))
  have shG := fun j => Qx.shape (hE.slices (hvb.el j))
  obtain ⟨A1, l1, c1, rfl⟩ := ha.shape
  obtain ⟨A2, l2, c2, rfl⟩ := hb.shape
  refine (callsIn_wide (n := 10)).1 ?_
  refine callsIn_of_wp_marks Tryz.func94 rfl trivial ?_ rfl
  simp only [Tryz.ntmps94, List.size_toArray, List.length_cons, List.length_nil, Nat.reduceAdd, Nat.reduceSub, Array.replicate_succ, Array.replicate_zero, List.push_toArray, List.append_toArray, List.nil_append, List.cons_append]
  gi_wp2_with (gi_at_call 116; refine CallsIn.mono (callsIn_wide.2 both_c) ?_; rintro e w' ⟨rfl, rfl⟩)
  refine' wpIn_rangeFunc_ownH rfl (by omega) (gf := 184) (lb := #[.pointer (some ⟨w.heap.size + 1 + 1, 0, none⟩), .pointer (some ⟨w.heap.size + 1 + 1 + 1, 0, none⟩)]) rfl trivial (enters_of Tryz.func184 (by kernel_rfl) rfl)
    (both_stops (n := 9) (by omega) hE hva hvb ?p1 ?p2 ?p3)
    KB.trans ?p5 (Below.refl _ _) (fun _ => rfl)
    (fun pre W => ∃ sv l, WthI w.heap.size w (.func (.func gf) #[] lb) (pre.map fun x => R x.val) W sv l)
    (fun _ _ _ => False) ?p6 (fun _ _ _ _ _ hs _ _ => hs) ?p7 (fun x a' W => ∃ b8, w.heap.size + 4 ≤ b8 ∧ a' = { tmps := #[.slice A1 l1 c1, .slice A2 l2 c2, .func (.func gf) #[] lb, undef, undef, .pointer (some ⟨w.heap.size, 0, none⟩), .pointer (some ⟨w.heap.size + 1, 0, none⟩), undef, .pointer (some ⟨b8, 0, none⟩), .slice A1 l1 c1, .slice A2 l2 c2, .func (.func 184) #[] #[.pointer (some ⟨w.heap.size + 1 + 1, 0, none⟩), .pointer (some ⟨w.heap.size + 1 + 1 + 1, 0, none⟩)], .int .i64 (x.val : Int), .agg #[.bool (f x).n, (f x).s, .bool (f x).m, (f x).t, .bool (g x).n, (g x).s, .bool (g x).m, (g x).t], undef, undef, undef, undef, undef, undef, undef, undef, undef, undef], defers := [] } ∧ W.heap[b8]? = some (.cells #[.bool (f x).n, (f x).s, .bool (f x).m, (f x).t, .bool (g x).n, (g x).s, .bool (g x).m, (g x).t] 133 (0, 0)))
    ?pA ?assign ?body ?done (fun _ _ _ _ _ _ h _ => h.elim)
  case assign =>
    intro l pre x W K hI hK
    obtain ⟨sv, ll, HI⟩ := hI
    have hsz := HI.size
    obtain ⟨fn, ⟨fA, fl, fc⟩, fm, ⟨fB, fl2, fc2⟩, hX⟩ := shF x.val
    obtain ⟨gn, ⟨gA, gl, gc⟩, gm, ⟨gB, gl2, gc2⟩, hY⟩ := shG x.val
    simp only [pr2, hX, hY] at hK ⊢
    gi_wp2
    refine hK _ _ ?_ ?_ ⟨sv, ll, HI.grown rfl (World.grownBy_alloc _ _ none) (fun r e => by cases e)⟩ ⟨W.heap.size, by omega, rfl, heap_alloc_new _ _⟩
    · exact (KeepsOthers.alloc _ _).from _
    · exact KB.of (A := W) (bal (b0 W)) (by omega) (by omega) (by omega)
  case p1 =>
    exact (Below.heap_alloc _ _ _ (by simp)).trans (new_at _ _ (by simp))
  case p2 =>
    exact new_at _ _ (by simp)
  case p3 => exact bal (bal (bal (bal (b0 w))))
  case p5 =>
    intro W l o o' hl hlo _ _
    simp at hl
    have hlt := (Array.getElem?_eq_some_iff.1 hlo).1
    exact ⟨by simp, below_putObj (Below.refl _ _) (by omega) (by omega), World.putObj_heap_other (by omega), World.putObj_heap_other (by omega)⟩
  case p6 =>
    rintro pre X Y row ⟨sv, l, HI⟩ hg hr
    exact ⟨sv, l, HI.grown rfl hg (fun r e => ⟨by have := (hr r e).1; simpa using this, (hr r e).2⟩)⟩
  case pA =>
    rintro x a' u X Y row ⟨b8, h8, ha', hb8⟩ hg hr
    exact ⟨b8, h8, ha', box8_from hb8 hg (fun r e => (hr r e).2)⟩
  case p7 =>
    refine ⟨.slice none 0 0, [], ⟨?_, ?_, World.ownsRow_nil _ _ _ _, rfl, fun j hj => by simp at hj, bal (bal (bal (bal (b0 w)))), by simp⟩⟩
    · exact (Below.heap_alloc _ _ _ (by (first | omega | (simp; done) | (simp; omega) | (simp [fresh]; done) | (simp [fresh]; omega)))).trans ((Below.heap_alloc _ _ _ (by (first | omega | (simp; done) | (simp; omega) | (simp [fresh]; done) | (simp [fresh]; omega)))).trans (new_at _ _ (by simp)))
    · exact (Below.heap_alloc _ _ _ (by (first | omega | (simp; done) | (simp; omega) | (simp [fresh]; done) | (simp [fresh]; omega)))).trans ((Below.heap_alloc _ _ _ (by (first | omega | (simp; done) | (simp; omega) | (simp [fresh]; done) | (simp [fresh]; omega)))).trans ((Below.heap_alloc _ _ _ (by (first | omega | (simp; done) | (simp; omega) | (simp [fresh]; done) | (simp [fresh]; omega)))).trans (new_at _ _ (by simp))))
  case body =>
    rintro l pre x a' W hl hloop ⟨sv, ll, HI⟩ ⟨b8, h8, rfl, hb8⟩ hlen
    obtain ⟨fn, ⟨fA, fl, fc⟩, fm, ⟨fB, fl2, fc2⟩, hX⟩ := shF x.val
    obtain ⟨gn, ⟨gA, gl, gc⟩, gm, ⟨gB, gl2, gc2⟩, hY⟩ := shG x.val
    simp only [hX, hY] at hb8 ⊢
    have hpl : pre.length < 1000000000 := by rw [plc_length] at hlen; omega
    obtain ⟨sA, sc, rfl⟩ := own_slice HI.own
    have elF := hva.el x.val
    have elG := hvb.el x.val
    rw [hX] at elF
    rw [hY] at elG
    simp only [Qx.v] at elF elG
    have hbW : Below w.heap.size w W := HI.below
    have hc5 : ∀ W', Below W.heap.size W W' → W'.cell? ⟨w.heap.size, 0, none⟩ = some (.func (.func gf) #[] lb) := fun W' hb => (hb.cell (p := ⟨w.heap.size, 0, none⟩) (Array.getElem?_eq_some_iff.1 HI.fbox).1).trans (cell_of_row W _ 0 _ 45 (0, 0) HI.fbox)
    have hc6 : ∀ W', Below W.heap.size W W' → W'.cell? ⟨w.heap.size + 1, 0, none⟩ = some (.slice sA (pre.map fun x => R x.val).length sc) := fun W' hb => (hb.cell (p := ⟨w.heap.size + 1, 0, none⟩) (Array.getElem?_eq_some_iff.1 HI.box).1).trans (cell_of_row W _ 0 _ 26 (0, 0) HI.box)
    have hc8 : ∀ W' i, Below W.heap.size W W' → W'.cell? ⟨b8, i, none⟩ = (#[Value.bool fn, .slice fA fl fc, .bool fm, .slice fB fl2 fc2, .bool gn, .slice gA gl gc, .bool gm, .slice gB gl2 gc2] : Array Value)[i]? := fun W' i hb => (World.cell?_of_block (w := W) (a := ⟨b8, i, none⟩) (hb.block b8 (Array.getElem?_eq_some_iff.1 hb8).1)).trans (cell_of_row W _ i _ 133 (0, 0) hb8)
    obtain ⟨i0, hi, hz0, hz1, hz2⟩ := info_parts' Tryz.info44
    gi_wp2
    refine wpIn_region_inv (by kernel_rfl) (I := fun L a W' => ∃ u14 u15 u16 u17 u18 u19 u20 u21 u22, a = { tmps := #[.slice A1 l1 c1, .slice A2 l2 c2, .func (.func gf) #[] lb, undef, undef, .pointer (some ⟨w.heap.size, 0, none⟩), .pointer (some ⟨w.heap.size + 1, 0, none⟩), undef, .pointer (some ⟨b8, 0, none⟩), .slice A1 l1 c1, .slice A2 l2 c2, .func (.func 184) #[] #[.pointer (some ⟨w.heap.size + 1 + 1, 0, none⟩), .pointer (some ⟨w.heap.size + 1 + 1 + 1, 0, none⟩)], .int .i64 (x.val : Int), .agg #[.bool fn, .slice fA fl fc, .bool fm, .slice fB fl2 fc2, .bool gn, .slice gA gl gc, .bool gm, .slice gB gl2 gc2], u14, u15, u16, u17, u18, u19, u20, u21, u22, undef], defers := [] } ∧
      (dn L 0 → u14 = .slice sA (pre.map fun x => R x.val).length sc) ∧ (dn L 1 → u15 = .func (.func gf) #[] lb) ∧ (dn L 2 → u16 = .pointer (some ⟨b8, 0, none⟩)) ∧ (dn L 3 → u17 = .agg #[.bool fn, .slice fA fl fc, .bool fm, .slice fB fl2 fc2]) ∧
      (dn L 4 → u18 = .pointer (some ⟨b8, 4, none⟩)) ∧ (dn L 5 → u19 = .agg #[.bool gn, .slice gA gl gc, .bool gm, .slice gB gl2 gc2]) ∧
      (¬ dn L 8 → Below W.heap.size W W') ∧
      (dn L 6 → ¬ dn L 7 → ∃ y : Qx, u20 = y.v ∧ isQc (fun k => W.heap.size ≤ k) W' y.v (R x.val)) ∧
      (dn L 7 → ¬ dn L 8 → ∃ (y : Qx) (k : Nat), u21 = .slice (some ⟨k, 0, none⟩) 1 1 ∧ W'.heap[k]? = some (.cells #[.bool y.n, y.s, .bool y.m, y.t] 44 (0, 0)) ∧ isQc (fun k => W.heap.size ≤ k) W' y.v (R x.val)) ∧
      (dn L 8 → ¬ dn L 9 → ∃ ll', u22.ownBlock = u22.ownBlock ∧ W'.heap[w.heap.size + 1]? = some (.cells #[.slice sA (pre.map fun x => R x.val).length sc] 26 (0, 0)) ∧ W'.ownsRow (w.heap.size + 4) 44 4 u22 (pre.length + 1) (qcs ll') ∧ ll'.length = pre.length + 1 ∧ (∀ j (hj : j < ll'.length), isQc (okf w.heap.size u22) W' (ll'[j]).v (((pre ++ [x]).map fun x => R x.val).getD j 0)) ∧ KeepsOthers W W' ∧ KB w.heap.size (w.heap.size + 1 + 1) (w.heap.size + 1 + 1 + 1) W W' ∧ W'.heap[w.heap.size]? = some (.cells #[.func (.func gf) #[] lb] 45 (0, 0))) ∧
      (dn L 9 → ∃ sv' ll', WthI w.heap.size w (.func (.func gf) #[] lb) ((pre ++ [x]).map fun x => R x.val) W' sv' ll' ∧ KeepsOthers W W' ∧ KB w.heap.size (w.heap.size + 1 + 1) (w.heap.size + 1 + 1 + 1) W W')) ?hac ?start ?step ?fin
    case hac =>
      kernel_rfl
    case start =>
      refine ⟨undef, undef, undef, undef, undef, undef, undef, undef, undef, rfl, ?_⟩
      simp only [dn_start, false_imp_iff, true_and, and_true, not_false_eq_true, true_imp_iff, forall_const]
      exact bdr (b0 W)
    case step =>
      intro L a W' j o hs hcl hI hj ho hpre
      obtain ⟨u14, u15, u16, u17, u18, u19, u20, u21, u22, rfl, e0, e1, e2, e3, e4, e5, hw, s6, s7, s8, s9⟩ := hI
      have hj10 : j < 10 := by have := (Array.getElem?_eq_some_iff.1 ho).1; simpa using this
      obtain ⟨hjf, hjl⟩ := not_dn hj
      have d8 : dn L 8 → dn L 0 ∧ dn L 7 ∧ dn L 6 := fun h => by simpa [Region.binds] using hcl.dn (j := 8) rfl h
      have d6 : dn L 6 → dn L 1 ∧ dn L 3 ∧ dn L 5 := fun h => by simpa [Region.binds] using hcl.dn (j := 6) rfl h
      have d7 : dn L 7 → dn L 6 := fun h => by simpa [Region.binds] using hcl.dn (j := 7) rfl h
      have d9 : dn L 9 → dn L 8 := fun h => by have := hcl.dn (j := 9) rfl h; simp [Region.binds] at this; exact this.1
      have d3 : dn L 3 → dn L 2 := fun h => by simpa [Region.binds] using hcl.dn (j := 3) rfl h
      have d5 : dn L 5 → dn L 4 := fun h => by simpa [Region.binds] using hcl.dn (j := 5) rfl h
      clear hcl hj hs
      have hpr : ∀ e ∈ o.after, Region.binds .any e = true → dn L e.on := hpre
      obtain rfl | rfl | rfl | rfl | rfl | rfl | rfl | rfl | rfl | rfl : j = 0 ∨ j = 1 ∨ j = 2 ∨ j = 3 ∨ j = 4 ∨ j = 5 ∨ j = 6 ∨ j = 7 ∨ j = 8 ∨ j = 9 := by omega
      · have c6 := hc6 W' (hw (fun h => hjf (d8 h).1))
        refine wpOpIn_step rfl (fun K' hK => ?_)
        simp only [Region.wanted]
        have HK := Lib.hid hK
        clear hK
        gi_wp2
        refine HK.out _ _ ⟨_, _, _, _, _, _, _, _, _, rfl, ?_, ?_, ?_, ?_, ?_, ?_, ?_, ?_, ?_, ?_, ?_⟩
        all_goals simp only [dn_self hjl, dn_ne (show (0 : Nat) ≠ 1 by omega), dn_ne (show (0 : Nat) ≠ 2 by omega), dn_ne (show (0 : Nat) ≠ 3 by omega), dn_ne (show (0 : Nat) ≠ 4 by omega), dn_ne (show (0 : Nat) ≠ 5 by omega), dn_ne (show (0 : Nat) ≠ 6 by omega), dn_ne (show (0 : Nat) ≠ 7 by omega), dn_ne (show (0 : Nat) ≠ 8 by omega), dn_ne (show (0 : Nat) ≠ 9 by omega)]
        all_goals first | assumption | (intro _; rfl) | (intro _; trivial) | (intro _; simp; done) | skip
      · have c5 := hc5 W' (hw (fun h => hjf (d6 (d8 h).2.2).1))
        refine wpOpIn_step rfl (fun K' hK => ?_)
        simp only [Region.wanted]
        have HK := Lib.hid hK
        clear hK
        gi_wp2
        refine HK.out _ _ ⟨_, _, _, _, _, _, _, _, _, rfl, ?_, ?_, ?_, ?_, ?_, ?_, ?_, ?_, ?_, ?_, ?_⟩
        all_goals simp only [dn_self hjl, dn_ne (show (1 : Nat) ≠ 0 by omega), dn_ne (show (1 : Nat) ≠ 2 by omega), dn_ne (show (1 : Nat) ≠ 3 by omega), dn_ne (show (1 : Nat) ≠ 4 by omega), dn_ne (show (1 : Nat) ≠ 5 by omega), dn_ne (show (1 : Nat) ≠ 6 by omega), dn_ne (show (1 : Nat) ≠ 7 by omega), dn_ne (show (1 : Nat) ≠ 8 by omega), dn_ne (show (1 : Nat) ≠ 9 by omega)]
        all_goals first | assumption | (intro _; rfl) | (intro _; trivial) | (intro _; simp; done) | skip
      · skip
        refine wpOpIn_step rfl (fun K' hK => ?_)
        simp only [Region.wanted]
        have HK := Lib.hid hK
        clear hK
        gi_wp2
        refine HK.out _ _ ⟨_, _, _, _, _, _, _, _, _, rfl, ?_, ?_, ?_, ?_, ?_, ?_, ?_, ?_, ?_, ?_, ?_⟩
        all_goals simp only [dn_self hjl, dn_ne (show (2 : Nat) ≠ 0 by omega), dn_ne (show (2 : Nat) ≠ 1 by omega), dn_ne (show (2 : Nat) ≠ 3 by omega), dn_ne (show (2 : Nat) ≠ 4 by omega), dn_ne (show (2 : Nat) ≠ 5 by omega), dn_ne (show (2 : Nat) ≠ 6 by omega), dn_ne (show (2 : Nat) ≠ 7 by omega), dn_ne (show (2 : Nat) ≠ 8 by omega), dn_ne (show (2 : Nat) ≠ 9 by omega)]
        all_goals first | assumption | (intro _; rfl) | (intro _; trivial) | (intro _; simp; done) | skip
      · have hbw := hw (fun h => hjf (d6 (d8 h).2.2).2.1)
        obtain rfl := e2 (by simp at ho; subst ho; simpa [Region.binds] using hpr)
        have x0 := hc8 W' 0 hbw; have x1 := hc8 W' 1 hbw; have x2 := hc8 W' 2 hbw; have x3 := hc8 W' 3 hbw; simp only [List.getElem?_toArray, List.getElem?_cons_zero, List.getElem?_cons_succ] at x0 x1 x2 x3
        refine wpOpIn_step rfl (fun K' hK => ?_)
        simp only [Region.wanted]
        have HK := Lib.hid hK
        clear hK
        gi_wp2
        refine HK.out _ _ ⟨_, _, _, _, _, _, _, _, _, rfl, ?_, ?_, ?_, ?_, ?_, ?_, ?_, ?_, ?_, ?_, ?_⟩
        all_goals simp only [dn_self hjl, dn_ne (show (3 : Nat) ≠ 0 by omega), dn_ne (show (3 : Nat) ≠ 1 by omega), dn_ne (show (3 : Nat) ≠ 2 by omega), dn_ne (show (3 : Nat) ≠ 4 by omega), dn_ne (show (3 : Nat) ≠ 5 by omega), dn_ne (show (3 : Nat) ≠ 6 by omega), dn_ne (show (3 : Nat) ≠ 7 by omega), dn_ne (show (3 : Nat) ≠ 8 by omega), dn_ne (show (3 : Nat) ≠ 9 by omega)]
        all_goals first | assumption | (intro _; rfl) | (intro _; trivial) | (intro _; simp; done) | skip
      · skip
        refine wpOpIn_step rfl (fun K' hK => ?_)
        simp only [Region.wanted]
        have HK := Lib.hid hK
        clear hK
        gi_wp2
        refine HK.out _ _ ⟨_, _, _, _, _, _, _, _, _, rfl, ?_, ?_, ?_, ?_, ?_, ?_, ?_, ?_, ?_, ?_, ?_⟩
        all_goals simp only [dn_self hjl, dn_ne (show (4 : Nat) ≠ 0 by omega), dn_ne (show (4 : Nat) ≠ 1 by omega), dn_ne (show (4 : Nat) ≠ 2 by omega), dn_ne (show (4 : Nat) ≠ 3 by omega), dn_ne (show (4 : Nat) ≠ 5 by omega), dn_ne (show (4 : Nat) ≠ 6 by omega), dn_ne (show (4 : Nat) ≠ 7 by omega), dn_ne (show (4 : Nat) ≠ 8 by omega), dn_ne (show (4 : Nat) ≠ 9 by omega)]
        all_goals first | assumption | (intro _; rfl) | (intro _; trivial) | (intro _; simp; done) | skip
      · have hbw := hw (fun h => hjf (d6 (d8 h).2.2).2.2)
        obtain rfl := e4 (by simp at ho; subst ho; simpa [Region.binds] using hpr)
        have x0 := hc8 W' 4 hbw; have x1 := hc8 W' 5 hbw; have x2 := hc8 W' 6 hbw; have x3 := hc8 W' 7 hbw; simp only [List.getElem?_toArray, List.getElem?_cons_zero, List.getElem?_cons_succ] at x0 x1 x2 x3
        refine wpOpIn_step rfl (fun K' hK => ?_)
        simp only [Region.wanted]
        have HK := Lib.hid hK
        clear hK
        gi_wp2
        refine HK.out _ _ ⟨_, _, _, _, _, _, _, _, _, rfl, ?_, ?_, ?_, ?_, ?_, ?_, ?_, ?_, ?_, ?_, ?_⟩
        all_goals simp only [dn_self hjl, dn_ne (show (5 : Nat) ≠ 0 by omega), dn_ne (show (5 : Nat) ≠ 1 by omega), dn_ne (show (5 : Nat) ≠ 2 by omega), dn_ne (show (5 : Nat) ≠ 3 by omega), dn_ne (show (5 : Nat) ≠ 4 by omega), dn_ne (show (5 : Nat) ≠ 6 by omega), dn_ne (show (5 : Nat) ≠ 7 by omega), dn_ne (show (5 : Nat) ≠ 8 by omega), dn_ne (show (5 : Nat) ≠ 9 by omega)]
        all_goals first | assumption | (intro _; rfl) | (intro _; trivial) | (intro _; simp; done) | skip
      · have hbw := hw (fun h => hjf (d8 h).2.2)
        obtain ⟨p1, p3, p5⟩ : dn L 1 ∧ dn L 3 ∧ dn L 5 := (by simp at ho; subst ho; simpa [Region.binds] using hpr)
        obtain rfl := e1 p1
        obtain rfl := e3 p3
        obtain rfl := e5 p5
        have hwW : Below w.heap.size w W' := hbW.trans (hbw.mono (hbW.size))
        have HF := Lib.hid (hf W' _ _ x.val hwW (hE.below elF (hbW.trans (hbw.mono hbW.size))) (hE.below elG (hbW.trans (hbw.mono hbW.size))))
        refine wpOpIn_step rfl (fun K' hK => ?_)
        simp only [Region.wanted]
        have HK := Lib.hid hK
        clear hK
        gi_wp2_with ((with_reducible refine CallsIn.mono (CallsIn.inRound l (callsIn_wide.2 HF.out)) ?_); rintro e w1 ⟨yn, yA, yl, yc, ym, yB, yl2, yc2, rfl, hb1, hr1⟩)
        refine HK.out _ _ ⟨_, _, _, _, _, _, _, _, _, rfl, ?_, ?_, ?_, ?_, ?_, ?_, ?_, ?_, ?_, ?_, ?_⟩
        all_goals simp only [dn_self hjl, dn_ne (show (6 : Nat) ≠ 0 by omega), dn_ne (show (6 : Nat) ≠ 1 by omega), dn_ne (show (6 : Nat) ≠ 2 by omega), dn_ne (show (6 : Nat) ≠ 3 by omega), dn_ne (show (6 : Nat) ≠ 4 by omega), dn_ne (show (6 : Nat) ≠ 5 by omega), dn_ne (show (6 : Nat) ≠ 7 by omega), dn_ne (show (6 : Nat) ≠ 8 by omega), dn_ne (show (6 : Nat) ≠ 9 by omega)]
        all_goals first | assumption | (intro _; rfl) | (intro _; trivial) | (intro _; simp; done) | skip
        · exact fun _ => hbw.trans (hb1.mono hbw.size)
        · exact fun _ _ => ⟨⟨yn, .slice yA yl yc, ym, .slice yB yl2 yc2⟩, rfl, hr1.mono (fun k _ hk => Nat.le_trans hbw.size hk)⟩
        · exact fun h => absurd (d7 h) hjf
        · exact fun h => absurd (d8 h).2.2 hjf
        · exact fun h => absurd (d8 (d9 h)).2.2 hjf
      · have hbw := hw (fun h => hjf (d8 h).2.1)
        have p6 : dn L 6 := (by simp at ho; subst ho; simpa [Region.binds] using hpr)
        obtain ⟨⟨yn, ys, ym, yt⟩, rfl, hy⟩ := s6 p6 hjf
        obtain ⟨⟨yA, yl, yc, rfl⟩, yB, yl2, yc2, rfl⟩ := hy.slices
        simp only [Qx.v] at *
        refine wpOpIn_step rfl (fun K' hK => ?_)
        simp only [Region.wanted]
        have HK := Lib.hid hK
        clear hK
        gi_wp2
        refine HK.out _ _ ⟨_, _, _, _, _, _, _, _, _, rfl, ?_, ?_, ?_, ?_, ?_, ?_, ?_, ?_, ?_, ?_, ?_⟩
        all_goals simp only [dn_self hjl, dn_ne (show (7 : Nat) ≠ 0 by omega), dn_ne (show (7 : Nat) ≠ 1 by omega), dn_ne (show (7 : Nat) ≠ 2 by omega), dn_ne (show (7 : Nat) ≠ 3 by omega), dn_ne (show (7 : Nat) ≠ 4 by omega), dn_ne (show (7 : Nat) ≠ 5 by omega), dn_ne (show (7 : Nat) ≠ 6 by omega), dn_ne (show (7 : Nat) ≠ 8 by omega), dn_ne (show (7 : Nat) ≠ 9 by omega)]
        all_goals first | assumption | (intro _; rfl) | (intro _; trivial) | (intro _; simp; done) | skip
        · exact fun _ => hbw.trans ((bal (b0 _)).mono hbw.size)
        · exact fun _ _ => ⟨⟨yn, .slice yA yl yc, ym, .slice yB yl2 yc2⟩, W'.heap.size, rfl, heap_alloc_new _ _, hy.al⟩
        · exact fun h => absurd (d8 h).2.1 hjf
        · exact fun h => absurd (d8 (d9 h)).2.1 hjf
      · have hbw := hw hjf
        obtain ⟨p0, p7⟩ : dn L 0 ∧ dn L 7 := (by simp at ho; subst ho; have := hpr; simp [Region.binds] at this; exact ⟨this.1, this.2.1⟩)
        obtain rfl := e0 p0
        obtain ⟨⟨yn, ys, ym, yt⟩, kb, rfl, hkb, hy⟩ := s7 p7 hjf
        obtain ⟨⟨yA, yl, yc, rfl⟩, yB, yl2, yc2, rfl⟩ := hy.slices
        have hown := row_below HI.own hbw
        have hsW := HI.size
        have hsW' := hbw.size
        have hnews : ∀ j u, [Value.bool yn, .slice yA yl yc, .bool ym, .slice yB yl2 yc2][j]? = some u → W'.cell? ((⟨kb, 0, none⟩ : Addr).add j) = some u := by
          intro j u hu
          rw [addr_add0, Nat.zero_add, cell_of_row W' kb j _ 44 (0, 0) hkb]
          simpa using hu
        refine wpOpIn_step rfl (fun K' hK => ?_)
        have HK := Lib.hid hK
        clear hK
        show Oper.wpIn _ _ _ _ _ _ _ _
        refine opIn_append (.tmp 14) (.tmp 21) 26 rfl (w.heap.size + 4) 44 i0 (.agg #[.bool false, .slice none 0 0, .bool false, .slice none 0 0]) 4 64 Tryz.under26 hi hz0 hz1 hz2 rfl (by decide) _ _ _ rfl hown ⟨kb, 0, none⟩ 1 1 [Value.bool yn, .slice yA yl yc, .bool ym, .slice yB yl2 yc2] rfl rfl hnews ?_ ?_ ?_ (by omega) ?_
        · exact Qx.one ⟨yn, .slice yA yl yc, ym, .slice yB yl2 yc2⟩ ⟨_, _, _, rfl⟩ ⟨_, _, _, rfl⟩
        · rw [List.length_map]; unfold maxLen; omega
        · rw [List.length_map]; omega
        intro v' w1 hown' hgrow hblk
        refine HK.out _ _ ⟨_, _, _, _, _, _, _, _, _, rfl, ?_, ?_, ?_, ?_, ?_, ?_, ?_, ?_, ?_, ?_, ?_⟩
        all_goals simp only [dn_self hjl, dn_ne (show (8 : Nat) ≠ 0 by omega), dn_ne (show (8 : Nat) ≠ 1 by omega), dn_ne (show (8 : Nat) ≠ 2 by omega), dn_ne (show (8 : Nat) ≠ 3 by omega), dn_ne (show (8 : Nat) ≠ 4 by omega), dn_ne (show (8 : Nat) ≠ 5 by omega), dn_ne (show (8 : Nat) ≠ 6 by omega), dn_ne (show (8 : Nat) ≠ 7 by omega), dn_ne (show (8 : Nat) ≠ 9 by omega)]
        all_goals first | assumption | (intro _; rfl) | (intro _; trivial) | (intro _; simp; done) | skip
        · exact fun _ h => absurd p7 h
        · intro _ _
          have hrow : ∀ r, (Value.slice sA (pre.map fun x => R x.val).length sc).ownBlock = some r → w.heap.size + 4 ≤ r ∧ r < W.heap.size := fun r hr => HI.own.lt r hr
          have hlen : ll.length = pre.length := by rw [HI.len, List.length_map]
          refine ⟨ll ++ [⟨yn, .slice yA yl yc, ym, .slice yB yl2 yc2⟩], trivial, ?_, ?_, by simp [hlen], ?_, ?_, ?_, ?_⟩
          · refine (hgrow.block _ (by omega) (fun e => ?_)).trans ((hbw.block _ (by omega)).trans HI.box)
            have := (hrow _ e.symm).1; omega
          · rw [qcs_append, qcs_one]; rw [List.length_map] at hown'; exact hown'
          · intro j hj2
            have hy2 : isQc (okf w.heap.size (.slice sA (pre.map fun x => R x.val).length sc)) W' (Qx.v ⟨yn, .slice yA yl yc, ym, .slice yB yl2 yc2⟩) (R x.val) := hy.mono (fun b _ hb => ⟨fun e => by have := (hrow b e).2; omega, Nat.le_trans hbW.size hb⟩)
            by_cases hjl2 : j < ll.length
            · rw [List.getElem_append_left hjl2, (map_snoc pre x (fun x => R x.val) j).1 (by omega)]
              exact (isQc.below (HI.el j hjl2) hbw).appendedF hgrow hblk
            · have hje : j = ll.length := by simp at hj2; omega
              subst hje
              rw [List.getElem_append_right (Nat.le_refl _), (map_snoc pre x (fun x => R x.val) _).2 hlen]
              simp only [Nat.sub_self, List.getElem_cons_zero]
              exact hy2.appendedF hgrow hblk
          · exact (keeps_below hbw).trans (KeepsOthers.of_grownBy hgrow (fun r o hr ho => by
              rcases hown.2 with ⟨e, _⟩ | ⟨g', cap', cur, e, _, hgg, _⟩
              · rw [e] at hr; cases hr
              · rw [e] at hr; injection hr with hr; subst hr; rw [hgg] at ho; cases ho; rfl))
          · refine ⟨Nat.le_trans hsW' hgrow.size, (hbw.mono (by omega)).grown hgrow (by omega) (fun r hr => by have := (hrow r hr).1; omega), ?_, ?_⟩
            · refine (hgrow.block _ (by omega) (fun e => ?_)).trans (hbw.block _ (by omega))
              have := (hrow _ e.symm).1; omega
            · refine (hgrow.block _ (by omega) (fun e => ?_)).trans (hbw.block _ (by omega))
              have := (hrow _ e.symm).1; omega
          · refine (hgrow.block _ (by omega) (fun e => ?_)).trans ((hbw.block _ (by omega)).trans HI.fbox)
            have := (hrow _ e.symm).1; omega
        · exact fun h => absurd (d9 h) hjf
      · have p8 : dn L 8 := (by simp at ho; subst ho; have := hpr; simp [Region.binds] at this; exact this.1)
        obtain ⟨ll', _, hbox, hown9, hl9, hel9, hk9, hkb9, hfb9⟩ := s8 p8 hjf
        obtain ⟨vA, vc, rfl⟩ := own_slice hown9
        have c6 := cell_of_row W' _ 0 _ 26 (0, 0) hbox
        simp only [List.getElem?_toArray, List.getElem?_cons_zero] at c6
        have f6 : W'.frozen? ⟨w.heap.size + 1, 0, none⟩ = false := by simp [World.frozen?, hbox]
        have hsW := HI.size
        refine wpOpIn_step rfl (fun K' hK => ?_)
        simp only [Region.wanted]
        have HK := Lib.hid hK
        clear hK
        gi_wp2
        refine HK.out _ _ ⟨_, _, _, _, _, _, _, _, _, rfl, ?_, ?_, ?_, ?_, ?_, ?_, ?_, ?_, ?_, ?_, ?_⟩
        all_goals simp only [dn_self hjl, dn_ne (show (9 : Nat) ≠ 0 by omega), dn_ne (show (9 : Nat) ≠ 1 by omega), dn_ne (show (9 : Nat) ≠ 2 by omega), dn_ne (show (9 : Nat) ≠ 3 by omega), dn_ne (show (9 : Nat) ≠ 4 by omega), dn_ne (show (9 : Nat) ≠ 5 by omega), dn_ne (show (9 : Nat) ≠ 6 by omega), dn_ne (show (9 : Nat) ≠ 7 by omega), dn_ne (show (9 : Nat) ≠ 8 by omega)]
        all_goals first | assumption | (intro _; rfl) | (intro _; trivial) | (intro _; simp; done) | skip
        all_goals first | exact fun h => absurd p8 h | exact fun _ h => absurd p8 h | exact fun _ h => absurd (d8 p8).2.1 h | skip
        · intro _
          have hne1 : w.heap.size ≠ w.heap.size + 1 := by omega
          have hne2 : w.heap.size + 1 + 1 ≠ w.heap.size + 1 := by omega
          have hne3 : w.heap.size + 1 + 1 + 1 ≠ w.heap.size + 1 := by omega
          refine ⟨.slice vA (pre.length + 1) vc, ll', ⟨Boxed.set _ hbox, (Below.heap_setCell _ _ _ _ hne1).trans hfb9, ?_, by simp [hl9], fun j hj2 => (hel9 j hj2).setX c6 (vk_slice _ _ _), (HI.below.trans hkb9.below).setCell (by simp) _, ?_⟩, hk9.trans (KeepsOthers.setCell _ _ _), ?_⟩
          · rw [List.length_map, List.length_append, List.length_singleton]; exact ownsRow_setCell_below hown9 (a := ⟨w.heap.size + 1, 0, none⟩) (by simp) _
          · have := hkb9.size; simp [World.setCell]; omega
          · exact ⟨by have := hkb9.size; simpa [World.setCell] using this, hkb9.below.setCell (by simp) _, (Below.heap_setCell _ _ _ _ hne2).trans hkb9.ba, (Below.heap_setCell _ _ _ _ hne3).trans hkb9.bb⟩
    case fin =>
      intro L a W' hI hall
      obtain ⟨u14, u15, u16, u17, u18, u19, u20, u21, u22, rfl, e0, e1, e2, e3, e4, e5, hw, s6, s7, s8, s9⟩ := hI
      obtain ⟨sv', ll', H1, H2, H3⟩ := s9 (hall 9 (by simp))
      exact ⟨H2.from _, H3, sv', ll', H1⟩
  case done =>
    rintro D xs W hD rfl ⟨sv, ll, HI⟩ hdef
    obtain ⟨sA, sc, rfl⟩ := own_slice HI.own
    have c6 := cell_of_row W _ 0 _ 26 (0, 0) HI.box
    simp only [List.getElem?_toArray, List.getElem?_cons_zero] at c6
    have f6 : W.frozen? ⟨w.heap.size + 1, 0, none⟩ = false := by simp [World.frozen?, HI.box]
    have hsW := HI.size
    gi_wp2
    have hdef' := (KeepsOthers.setCell W ⟨w.heap.size + 1, 0, none⟩ (.slice sA (plc (max qa.length qb.length)).length sc)).same D _ hdef rfl
    refine ⟨by simp, .inl ⟨_, _, rfl, run_takeDeferred hdef', ?_⟩⟩
    have hne1 : w.heap.size ≠ w.heap.size + 1 := by omega
    have H1 : WthI w.heap.size w (.func (.func gf) #[] lb) ((plc (max qa.length qb.length)).map fun x => R x.val) (W.setCell ⟨w.heap.size + 1, 0, none⟩ (.slice sA (plc (max qa.length qb.length)).length sc)) (.slice sA (plc (max qa.length qb.length)).length sc) ll := by
      rw [List.length_map] at c6
      refine ⟨Boxed.set _ HI.box, (Below.heap_setCell _ _ _ _ hne1).trans HI.fbox, ?_, HI.len, fun j hj2 => ?_, HI.below.setCell (by simp) _, by simp [World.setCell]; omega⟩
      · have := HI.own; rw [List.length_map] at this ⊢; exact ownsRow_setCell_below this (a := ⟨w.heap.size + 1, 0, none⟩) (by simp) _
      · have := HI.el j hj2; rw [List.length_map] at this; exact this.setX c6 (vk_slice _ _ _)
    have H2 := H1.grown rfl (grownBy_putObj' _ D (.deferred none)) (fun r e => by
      injection e with e; subst e
      exact ⟨by simp at hD; omega, _, hdef', rfl⟩)
    have c7 := cell_of_row _ _ 0 _ 26 (0, 0) H2.box
    simp only [List.getElem?_toArray, List.getElem?_cons_zero] at c7
    refine ⟨.slice sA (plc (max qa.length qb.length)).length sc, ?_, ?_⟩
    · simp [results, Tryz.results94, go_sem, c7]
    · have hv := own_vq (n0 := n0) (E := fun W v q => isQc (fresh w) W v q) H2.own H2.len (fun j hj2 => (H2.el j hj2).mono (fun b _ hb => hb.2))
      rw [show ((plc (max qa.length qb.length)).map fun x => R x.val) = (List.range (max qa.length qb.length)).map R from map_finRange _ R] at hv
      exact ⟨sA, _, sc, rfl, H2.below, hv.1, fun b o e => by have := hv.2 _ _ _ rfl b o e; omega⟩
theorem with_c {n0 : Nat} {E : Elt} (hE : Ratl E) {w : World} {va vb : Value} {qa qb : List Rat} (ha : Vq n0 E w va qa) (hb : Vq n0 E w vb qb) (gf : Nat) (lb : Array Value) (R : Nat → Rat) (eg : ∀ args w, (callFunc gf args).run Tryz.prog w = .ok (.enter gf args) w)
    (hf : ∀ W vx vy k, Below w.heap.size w W → E W vx (qa.getD k 0) → E W vy (qb.getD k 0) → Calls Tryz.prog gf (#[vx, vy] ++ lb) W (RetQ W (fresh W) (R k)))
    (hla : qa.length ≤ 1000000000) (hlb : qb.length ≤ 1000000000) :
    Calls Tryz.prog 94 #[va, vb, .func (.func gf) #[] lb] w (RetV w n0 ((List.range (max qa.length qb.length)).map R)) := (with_f hE ha hb gf lb R eg hf hla hlb).mono (fun _ _ h => h.v)
end Go.Proofs.YtdkfdamihnieiaaGreat
end
section
/- net.in: the lines in service, one by one. -/
open Go Go.RowKit Go.Shelf
namespace Go.Proofs.YtdkfdamihnieiaaGreat
open Go.Proofs
attribute [local go_sem] Oper.semAt_some wide_fn wide_depth
/-- The places of the lines in service. -/
def serv (n : Nat) (out : List Int) : List Nat := (List.range n).filter fun k => !out.contains (k : Int)
theorem serv_succ (n : Nat) (out : List Int) : serv (n + 1) out = serv n out ++ if out.contains (n : Int) then [] else [n] := by
  unfold serv
  rw [List.range_succ, List.filter_append]
  congr 1
  cases h : out.contains (n : Int) <;> simpa using h
theorem serv_mono {n m : Nat} (h : n ≤ m) (out : List Int) : (serv n out).length ≤ (serv m out).length := by
  induction m with
  | zero => obtain rfl : n = 0 := by omega
            exact Nat.le_refl _
  | succ m ih =>
    by_cases e : n = m + 1
    · subst e; exact Nat.le_refl _
    · have := ih (by omega)
      rw [serv_succ, List.length_append]; omega
theorem serv_lt {n m : Nat} (h : n < m) {out : List Int} (hc : out.contains (n : Int) = false) : (serv n out).length < (serv m out).length := by
  have := serv_mono (show n + 1 ≤ m from h) out
  rw [serv_succ, List.length_append, hc] at this
  simp only [Bool.false_eq_true, if_false, List.length_singleton] at this
  omega
theorem serv_le (n : Nat) (out : List Int) : (serv n out).length ≤ n := by
  unfold serv; exact Nat.le_trans (List.length_filter_le _ _) (by simp)
theorem serv_prefix {n m : Nat} (h : n ≤ m) (out : List Int) : serv n out <+: serv m out := by
  induction m with
  | zero => obtain rfl : n = 0 := by omega
            exact List.prefix_refl _
  | succ m ih =>
    by_cases e : n = m + 1
    · subst e; exact List.prefix_refl _
    · rw [serv_succ]; exact (ih (by omega)).trans (List.prefix_append _ _)
theorem serv_mem {n : Nat} {out : List Int} {k : Nat} (h : k ∈ serv n out) : k < n ∧ out.contains (k : Int) = false := by
  unfold serv at h
  rw [List.mem_filter, List.mem_range] at h
  exact ⟨h.1, by simpa using h.2⟩
theorem in_s {w : World} {b : Int} {A1 A2 : Option Addr} {l1 c1 l2 c2 : Nat} : Calls Tryz.prog 176 #[.agg #[.int .i64 b, .slice A1 l1 c1], .slice A2 l2 c2] w fun e w' =>
    e = .returned (.func (.func 234) #[] #[.pointer (some ⟨w.heap.size, 0, none⟩), .pointer (some ⟨w.heap.size + 1, 0, none⟩)]) ∧ w' = (w.alloc (.cells #[.int .i64 b, .slice A1 l1 c1] 24)).alloc (.cells #[.slice A2 l2 c2] 25) := by
  go_enter Tryz.func176, Tryz.ntmps176
  go_wp2
  go_ret
  exact ⟨rfl, rfl⟩
/-- What is handed to a round. -/
def prL (ls : List Ln) (k : Nat) : Array Value := #[.int .i64 (k : Int), (ls.getD k Ln.zero).v]
set_option maxRecDepth 100000 in
set_option maxHeartbeats 2000000 in
theorem in1_in (n : Nat) (hn : 1 ≤ n) (l Ba Bb : Nat) {wV : World} {b : Int} {vl vo : Value} {ls : List Ln} {out : List Int} (hl : Vl wV vl ls) (ho : Vi wV vo out) (hs : StrictL out) (hm : out.length ≤ 1000000000)
    (J Jx : List Nat → World → Prop) (W : World) (hJ : AbidesFrom W.heap.size J)
    (hY : ∀ pre x W, J pre W → pre.length < (serv ls.length out).length → YieldAt Fence.wide (n - 1) Tryz.prog l (prL ls x) W fun e W' =>
      (e = .returned (.bool true) ∧ J (pre ++ [x]) W' ∧ KB wV.heap.size Ba Bb W W') ∨ (e = .returned (.bool false) ∧ Jx (pre ++ [x]) W'))
    (hBa : W.heap[Ba]? = some (.cells #[.int .i64 b, vl] 24 (0, 0))) (hBb : W.heap[Bb]? = some (.cells #[vo] 25 (0, 0))) (h0 : J [] W) (hW : Below wV.heap.size wV W) :
    CallsIn Fence.wide n Tryz.prog 234 #[.func (.yield l) #[] #[], .pointer (some ⟨Ba, 0, none⟩), .pointer (some ⟨Bb, 0, none⟩)] W fun e W' => (∃ v, e = .returned v) ∧
      ((∃ ys, ys = serv ls.length out ∧ J ys W') ∨ (∃ pre, pre <+: serv ls.length out ∧ Jx pre W')) := by
  have HL := Lib.hid (fun W' (h : Below wV.heap.size wV W') => hl.below h)
  have HO := Lib.hid (fun W' (h : Below wV.heap.size wV W') => fun t : Int => bsearch_c (ho.below h) t hs hm)
  obtain ⟨A1, l1, c1, rfl⟩ := hl.shape
  obtain ⟨A2, l2, c2, rfl⟩ := ho.shape
  have e1 := hl.len
  have e2 := ho.len
  subst e1 e2
  have hm1 := hl.lim
  have hm2 := ho.lim
  have cA := fun j => cell_of_row W Ba j #[.int .i64 b, .slice A1 ls.length c1] 24 (0, 0) hBa
  have cB := cell_of_row W Bb 0 #[.slice A2 out.length c2] 25 (0, 0) hBb
  have cA1 := cA 1
  clear cA
  simp only [List.getElem?_toArray, List.getElem?_cons_zero, List.getElem?_cons_succ] at cA1 cB
  refine callsIn_of_wp Tryz.func234 rfl trivial ?_ rfl
  simp only [Tryz.ntmps234, List.size_toArray, List.length_cons, List.length_nil, Nat.reduceAdd, Nat.reduceSub, Array.replicate_succ, Array.replicate_zero, List.push_toArray, List.append_toArray, List.nil_append, List.cons_append]
  have ltA : Ba < W.heap.size := (Array.getElem?_eq_some_iff.1 hBa).1
  have ltB : Bb < W.heap.size := (Array.getElem?_eq_some_iff.1 hBb).1
  have HBa := Lib.hid hBa
  have HBb := Lib.hid hBb
  clear hBa hBb hl ho
  gi_wp2
  gi_loopw [11] (fun i wr => ∃ k : Nat, i = .int .i64 (k : Int) ∧ k ≤ ls.length ∧ J (serv k out) wr ∧ KB wV.heap.size Ba Bb W wr) (fun i _ => ls.length - (intOf i).toNat)
  case atStart => exact ⟨0, rfl, Nat.zero_le _, by simpa [serv] using h0, KB.refl _ _ _ _⟩
  case round =>
    obtain ⟨k, rfl, hk, hJs, hkp⟩ := hrel
    by_cases hlt : k < ls.length
    · have cBr := (World.cell?_of_block (w := W) (a := ⟨Bb, 0, none⟩) hkp.bb).trans cB
      have hkw : Below wV.heap.size wV wr := hW.trans hkp.below
      have lA : Ba < wr.heap.size := Nat.lt_of_lt_of_le ltA hkp.size
      have lB : Bb < wr.heap.size := Nat.lt_of_lt_of_le ltB hkp.size
      obtain ⟨bl, ol, rfl, hc⟩ := (HL.out wr hkw).at (by omega)
      obtain ⟨d0, d1, d2, d3⟩ := hc k hlt
      have hbl : bl < wr.heap.size := World.block_lt_of_cell? wr _ d0
      obtain ⟨x, hx⟩ : ∃ x, x = ls.getD k Ln.zero := ⟨_, rfl⟩
      rw [← hx] at d0 d1 d2 d3
      have hJ2 : J (serv k out) (wr.alloc (.cells #[.int .i64 x.f, .int .i64 x.t, .int .i64 x.x, .int .i64 x.c] 68)) :=
        hJ _ _ _ none hJs (World.grownBy_alloc _ _ none) (fun r e => by cases e)
      have HB2 := Lib.hid (HO.out (wr.alloc (.cells #[.int .i64 x.f, .int .i64 x.t, .int .i64 x.x, .int .i64 x.c] 68)) (bal hkw) (k : Int))
      obtain ⟨cc, hcc⟩ : ∃ cc, cc = out.contains (k : Int) := ⟨_, rfl⟩
      rw [← hcc] at HB2
      clear hc cA1 cB
      cases cc with
      | true =>
        have Hcc := Lib.hid hcc
        have HJ2 := Lib.hid hJ2
        clear hcc hx hJ2
        gi_wp2_with (gi_at_call 235; (with_reducible refine CallsIn.mono (callsIn_wide.2 HB2.out) ?_); rintro e w' ⟨⟨z, rfl⟩, rfl⟩)
        go_roundw
        case rel => exact ⟨k + 1, by go_num, by omega, by rw [serv_succ, ← Hcc.out]; simpa using HJ2.out, hkp.trans (KB.of (bal (b0 wr)) hkw.size lA lB)⟩
        case measure => simp [intOf]; omega
      | false =>
        obtain ⟨fn, tmps, assign, body, hy, hR⟩ := hY _ k _ hJ2 (serv_lt hlt hcc.symm)
        simp only [prL, ← hx, Ln.v] at hy hR
        have Hcc := Lib.hid hcc
        have hR2 := hR.mono (R' := fun e W' => ∃ bb, e = .returned (.bool bb) ∧ Hid (bb = true → J (serv (k + 1) out) W' ∧ KB wV.heap.size Ba Bb (wr.alloc (.cells #[.int .i64 x.f, .int .i64 x.t, .int .i64 x.x, .int .i64 x.c] 68)) W') ∧ Hid (bb = false → Jx (serv (k + 1) out) W')) (fun e W' h => by
          have e9 : serv (k + 1) out = serv k out ++ [k] := by rw [serv_succ, ← Hcc.out]; rfl
          rcases h with ⟨rfl, h1, h2⟩ | ⟨rfl, h1⟩
          · refine ⟨true, rfl, ?_, ?_⟩
            · unfold Hid; intro _; rw [e9]; exact ⟨h1, h2⟩
            · unfold Hid; intro h; cases h
          · refine ⟨false, rfl, ?_, ?_⟩
            · unfold Hid; intro h; cases h
            · unfold Hid; intro _; rw [e9]; exact h1)
        have HRR := Lib.hid hR2
        clear hR hR2 hcc hx hJ2
        gi_wp2_with (first
          | (gi_at_call 235; (with_reducible refine CallsIn.mono (callsIn_wide.2 HB2.out) ?_); rintro e w' ⟨⟨z, rfl⟩, rfl⟩)
          | (with_reducible refine HRR.out.mono ?_; rintro e W3 ⟨bb, rfl, hb1, hb2⟩))
        · have hbb : (!bb) = true := by assumption
          have hJx3 := hb2.out (by simpa using hbb)
          refine bodyPost_ret (results_none rfl _ _ _) rfl ?_
          exact ⟨⟨_, rfl⟩, .inr ⟨_, serv_prefix (by omega) _, hJx3⟩⟩
        · have hbb : (!bb) = false := by assumption
          obtain ⟨hJ3, hk3⟩ := hb1.out (by simpa using hbb)
          exact ⟨⟨k + 1, val_int (by omega), by omega, hJ3, hkp.trans ((KB.of (bal (b0 wr)) hkw.size lA lB).trans hk3)⟩, by simp [intOf]; omega⟩
    · obtain rfl : k = ls.length := by omega
      gi_wp2
      go_end0
      exact ⟨⟨_, rfl⟩, .inl ⟨_, rfl, hJs⟩⟩
end Go.Proofs.YtdkfdamihnieiaaGreat
end
