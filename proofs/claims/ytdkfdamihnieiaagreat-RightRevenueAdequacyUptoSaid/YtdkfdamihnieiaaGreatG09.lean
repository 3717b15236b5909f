/- Contracts of package frac, part 6: Cmp. -/
import Derived.Test.YtdkfdamihnieiaaGreatG08
import Derived.Deep.DeepCutAuto
set_option linter.unusedSimpArgs false
set_option linter.unusedVariables false
section
open Go Go.RowKit
namespace Go.Proofs.YtdkfdamihnieiaaGreat
open Go.Proofs
theorem size_al (W : World) (o : Obj) : (W.alloc o).heap.size = W.heap.size + 1 := Array.size_push _
theorem World.heap_drew (W : World) : W.drew.heap = W.heap := rfl
theorem Bx.set {n W0 W a v} (h : Bx n W0 W) (ha : n ≤ a.block) : Bx n W0 (W.setCell a v) := ⟨h.b.setCell ha v, by have := h.s; simpa [World.setCell] using this⟩
theorem isP.al {ok w v q B} (h : isP ok w v q B) {o} : isP ok (w.alloc o) v q B := h.below (bal (b0 _))
theorem isP.dr {ok w v q B} (h : isP ok w v q B) : isP ok w.drew v q B := h.below (bdr (b0 _))
theorem isP.both {ok w v q B} (h : isP ok w v q B) : isP (fun k => ok k ∧ k < w.heap.size) w v q B := h.mono (fun _ hb hk => ⟨hk, hb⟩) (Nat.le_refl _)
theorem isP.named {ok w v q B} (h : isP ok w v q B) : ∃ ok' : Nat → Prop, isP ok' w v q B ∧ ∀ k, ok' k → ok k ∧ k < w.heap.size := ⟨_, h.both, fun _ h => h⟩
theorem Blk.set4 {w b T x y z u} (h : Blk w b T [.bool false, .slice none 0 0, .bool false, .slice none 0 0]) : Blk ((((w.setCell ⟨b, 0, none⟩ x).setCell ⟨b, 1, none⟩ y).setCell ⟨b, 2, none⟩ z).setCell ⟨b, 3, none⟩ u) b T [x, y, z, u] := (((h.set 0 x).set 1 y).set 2 z).set 3 u
theorem Blk.set4Ne {w b T l b' x y z u} (h : Blk w b T l) (hne : b' ≠ b) : Blk ((((w.setCell ⟨b', 0, none⟩ x).setCell ⟨b', 1, none⟩ y).setCell ⟨b', 2, none⟩ z).setCell ⟨b', 3, none⟩ u) b T l := (((h.setNe x hne).setNe y hne).setNe z hne).setNe u hne
theorem four1 {W x T n3 s3 m3 t3} (h : Blk W x T [n3, s3, m3, t3]) : W.cell? ⟨x, 0, none⟩ = some n3 ∧ W.cell? ⟨x, 1, none⟩ = some s3 ∧ W.cell? ⟨x, 2, none⟩ = some m3 ∧ W.cell? ⟨x, 3, none⟩ = some t3 := ⟨h.cell 0, h.cell 1, h.cell 2, h.cell 3⟩
theorem four2 {W x y T U n3 s3 m3 t3 n4 s4 m4 t4} (h : Blk W x T [n3, s3, m3, t3]) (h' : Blk W y U [n4, s4, m4, t4]) : (W.cell? ⟨x, 0, none⟩ = some n3 ∧ W.cell? ⟨x, 1, none⟩ = some s3 ∧ W.cell? ⟨x, 2, none⟩ = some m3 ∧ W.cell? ⟨x, 3, none⟩ = some t3) ∧ W.cell? ⟨y, 0, none⟩ = some n4 ∧ W.cell? ⟨y, 1, none⟩ = some s4 ∧ W.cell? ⟨y, 2, none⟩ = some m4 ∧ W.cell? ⟨y, 3, none⟩ = some t4 := ⟨four1 h, four1 h'⟩
theorem Blk.new4 {W : World} {n : Nat} {T : TypeId} {x y z u : Value} (hn : n = W.heap.size) : Blk (W.alloc (.cells #[x, y, z, u] T)) n T [x, y, z, u] := Blk.new W [x, y, z, u] T hn.symm
set_option maxRecDepth 100000 in
set_option maxHeartbeats 4000000 in
theorem cmp_q {ok1 ok2 w va vb p q A B} (h1 : isQ ok1 w va p A) (h2 : isQ ok2 w vb q B) (hA0 : 0 < A) (hB0 : 0 < B) (hA : A ≤ 400000000) (hB : B ≤ 400000000) : Calls Tryz.prog 31 #[va, vb] w fun e w' => e = .returned (.int .i64 (qs (p - q))) ∧ Below w.heap.size w w' := by
  obtain ⟨n1, A1, l1, c1, m1, D1, e1, g1, rfl⟩ := h1.shape
  obtain ⟨n2, A2, l2, c2, m2, D2, e2, g2, rfl⟩ := h2.shape
  obtain ⟨z0, z1, z4⟩ := z2 w.heap.size
  have Q0 := bdr (bal (o := (Obj.cells #[Value.bool n2, .slice A2 l2 c2, .bool m2, .slice D2 e2 g2] 44)) (bal (o := (Obj.cells #[Value.bool n1, .slice A1 l1 c1, .bool m1, .slice D1 e1 g1] 44)) (b0 w)))
  go_enter Tryz.func31, Tryz.ntmps31
  go_upto_region 1 with fail
  have BS : Bx (w.heap.size + 2) ((w.alloc (Obj.cells #[Value.bool n1, .slice A1 l1 c1, .bool m1, .slice D1 e1 g1] 44)).alloc (Obj.cells #[Value.bool n2, .slice A2 l2 c2, .bool m2, .slice D2 e2 g2] 44)) (((w.alloc (Obj.cells #[Value.bool n1, .slice A1 l1 c1, .bool m1, .slice D1 e1 g1] 44)).alloc (Obj.cells #[Value.bool n2, .slice A2 l2 c2, .bool m2, .slice D2 e2 g2] 44)).drew) := (Bx.refl _ (by simp)).dr
  have BS0 : Bx (w.heap.size + 2) ((w.alloc (Obj.cells #[Value.bool n1, .slice A1 l1 c1, .bool m1, .slice D1 e1 g1] 44)).alloc (Obj.cells #[Value.bool n2, .slice A2 l2 c2, .bool m2, .slice D2 e2 g2] 44)) ((w.alloc (Obj.cells #[Value.bool n1, .slice A1 l1 c1, .bool m1, .slice D1 e1 g1] 44)).alloc (Obj.cells #[Value.bool n2, .slice A2 l2 c2, .bool m2, .slice D2 e2 g2] 44)) := Bx.refl _ (by simp)
  go_cut [5, 6] (fun x5 x6 W => ∃ x y n3 A3 l3 c3 m3 D3 e3 g3 n4 A4 l4 c4 m4 D4 e4 g4, x5 = .pointer (some ⟨x, 0, none⟩) ∧ x6 = .pointer (some ⟨y, 0, none⟩) ∧ Below w.heap.size w W ∧
    Blk W x 107 [.bool n3, .slice A3 l3 c3, .bool m3, .slice D3 e3 g3] ∧ Blk W y 107 [.bool n4, .slice A4 l4 c4, .bool m4, .slice D4 e4 g4] ∧
    isP (fun _ => True) W (.agg #[.bool n3, .slice A3 l3 c3, .bool m3, .slice D3 e3 g3]) p A ∧ isP (fun _ => True) W (.agg #[.bool n4, .slice A4 l4 c4, .bool m4, .slice D4 e4 g4]) q B)
  case first =>
    go_region_held3 (fun w' => ∀ b o, b < w.heap.size + 1 + 1 → w'.cell? ⟨b, o, none⟩ = ((w.alloc (Obj.cells #[Value.bool n1, .slice A1 l1 c1, .bool m1, .slice D1 e1 g1] 44)).alloc (Obj.cells #[Value.bool n2, .slice A2 l2 c2, .bool m2, .slice D2 e2 g2] 44)).cell? ⟨b, o, none⟩)
      (first | (with_reducible assumption) | (refine keep_of (n := w.heap.size + 2) ?_ (by omega); (repeat (first | with_reducible assumption | with_reducible refine Bx.al ?_ | with_reducible refine Bx.dr ?_ | with_reducible refine Bx.set ?_ (by (first | omega | (simp; done) | (simp; omega))))); done))
      (first
        | (go_at_call 91; (with_reducible refine Calls.mono (of_c (h1.old.below (by (repeat (first | with_reducible assumption | with_reducible exact b0 _ | with_reducible refine bal ?_ | with_reducible refine bdr ?_ | with_reducible refine bset ?_ (by (first | omega | (simp; done) | (simp; omega))))))) hA0 (by omega)) ?_); rintro e w1 ⟨n3, A3, l3, c3, m3, D3, e3, g3, rfl, hb1, hr1⟩; obtain ⟨okp1, hp1, hok1⟩ := hr1.named; clear hr1; have Q1 := bthen (by (repeat (first | with_reducible assumption | with_reducible exact b0 _ | with_reducible refine bal ?_ | with_reducible refine bdr ?_ | with_reducible refine bset ?_ (by (first | omega | (simp; done) | (simp; omega))))); done : Below w.heap.size w _) hb1; have B1 := Bx.step (by (repeat (first | with_reducible assumption | with_reducible refine Bx.al ?_ | with_reducible refine Bx.dr ?_ | with_reducible refine Bx.set ?_ (by (first | omega | (simp; done) | (simp; omega))))); done : Bx (w.heap.size + 2) ((w.alloc (Obj.cells #[Value.bool n1, .slice A1 l1 c1, .bool m1, .slice D1 e1 g1] 44)).alloc (Obj.cells #[Value.bool n2, .slice A2 l2 c2, .bool m2, .slice D2 e2 g2] 44)) _) hb1; have k1 := B1.cell; have s1 := B1.s; have kk1 := ((Bx.refl _ rfl).step hb1).cell; have ff1 := ((Bx.refl _ rfl).step hb1).frozen; have ss1 := hb1.size; (try simp only [size_al, World.heap_drew] at kk1 ff1 ss1 hok1); (try have := (by omega : w.heap.size < w1.heap.size)); (try have := (by omega : w.heap.size + 1 < w1.heap.size)); (try have := (by omega : w.heap.size + 1 + 1 < w1.heap.size)); (try have := (by omega : w.heap.size + 1 + 1 + 1 < w1.heap.size)); (try have := (by omega : w.heap.size + 2 < w1.heap.size)); (try have := (by omega : w.heap.size + 3 < w1.heap.size)))
        | (go_at_call 91; (with_reducible refine Calls.mono (of_c (h2.old.below (by (repeat (first | with_reducible assumption | with_reducible exact b0 _ | with_reducible refine bal ?_ | with_reducible refine bdr ?_ | with_reducible refine bset ?_ (by (first | omega | (simp; done) | (simp; omega))))))) hB0 (by omega)) ?_); rintro e w2 ⟨n4, A4, l4, c4, m4, D4, e4, g4, rfl, hb2, hr2⟩; obtain ⟨okp2, hp2, hok2⟩ := hr2.named; clear hr2; have Q2 := bthen (by (repeat (first | with_reducible assumption | with_reducible exact b0 _ | with_reducible refine bal ?_ | with_reducible refine bdr ?_ | with_reducible refine bset ?_ (by (first | omega | (simp; done) | (simp; omega))))); done : Below w.heap.size w _) hb2; have B2 := Bx.step (by (repeat (first | with_reducible assumption | with_reducible refine Bx.al ?_ | with_reducible refine Bx.dr ?_ | with_reducible refine Bx.set ?_ (by (first | omega | (simp; done) | (simp; omega))))); done : Bx (w.heap.size + 2) ((w.alloc (Obj.cells #[Value.bool n1, .slice A1 l1 c1, .bool m1, .slice D1 e1 g1] 44)).alloc (Obj.cells #[Value.bool n2, .slice A2 l2 c2, .bool m2, .slice D2 e2 g2] 44)) _) hb2; have k2 := B2.cell; have s2 := B2.s; have kk2 := ((Bx.refl _ rfl).step hb2).cell; have ff2 := ((Bx.refl _ rfl).step hb2).frozen; have ss2 := hb2.size; (try simp only [size_al, World.heap_drew] at kk2 ff2 ss2 hok2); (try have := (by omega : w.heap.size < w2.heap.size)); (try have := (by omega : w.heap.size + 1 < w2.heap.size)); (try have := (by omega : w.heap.size + 1 + 1 < w2.heap.size)); (try have := (by omega : w.heap.size + 1 + 1 + 1 < w2.heap.size)); (try have := (by omega : w.heap.size + 2 < w2.heap.size)); (try have := (by omega : w.heap.size + 3 < w2.heap.size)); (try have := (by omega : w1.heap.size < w2.heap.size)); (try have := (by omega : w1.heap.size + 1 < w2.heap.size)); (try have := (by omega : w1.heap.size + 1 + 1 < w2.heap.size)); (try have := (by omega : w1.heap.size + 1 + 1 + 1 < w2.heap.size)); (try have := (by omega : w1.heap.size + 2 < w2.heap.size)); (try have := (by omega : w1.heap.size + 3 < w2.heap.size))))
    all_goals
      go_wp2_with fail
      go_meet
      refine ⟨_, _, n3, A3, l3, c3, m3, D3, e3, g3, n4, A4, l4, c4, m4, D4, e4, g4, rfl, rfl, ?_, ?_, ?_, ?_, ?_⟩
      · (repeat (first | with_reducible assumption | with_reducible exact b0 _ | with_reducible refine bal ?_ | with_reducible refine bdr ?_ | with_reducible refine bset ?_ (by (first | omega | (simp; done) | (simp; omega)))))
      · repeat (first | with_reducible refine Blk.new4 (by (first | omega | (simp; done) | (simp; omega))) | with_reducible refine Blk.set4 ?_ | with_reducible refine Blk.set4Ne ?_ (by (first | omega | (simp; done) | (simp; omega))) | with_reducible refine Blk.al ?_ | with_reducible refine Blk.dr ?_ | with_reducible refine Blk.below ?_ hb2 | with_reducible refine Blk.below ?_ hb1)
      · repeat (first | with_reducible refine Blk.new4 (by (first | omega | (simp; done) | (simp; omega))) | with_reducible refine Blk.set4 ?_ | with_reducible refine Blk.set4Ne ?_ (by (first | omega | (simp; done) | (simp; omega))) | with_reducible refine Blk.al ?_ | with_reducible refine Blk.dr ?_ | with_reducible refine Blk.below ?_ hb2 | with_reducible refine Blk.below ?_ hb1)
      · refine isP.any (ok := okp1) ?_
        repeat' (first | with_reducible exact hp1 | with_reducible refine isP.set4 ?_ ?_ | with_reducible refine isP.al ?_ | with_reducible refine isP.below ?_ hb2)
        all_goals (first | exact fun h => (by have := hok1 _ h; omega) | exact fun h => (by have := hok2 _ h; omega))
      · refine isP.any (ok := okp2) ?_
        repeat' (first | with_reducible exact hp2 | with_reducible refine isP.set4 ?_ ?_ | with_reducible refine isP.al ?_ | with_reducible refine isP.below ?_ hb2)
        all_goals (first | exact fun h => (by have := hok1 _ h; omega) | exact fun h => (by have := hok2 _ h; omega))
  case rest =>
    obtain ⟨x, y, n3, A3, l3, c3, m3, D3, e3, g3, n4, A4, l4, c4, m4, D4, e4, g4, rfl, rfl, hbw, bx, b_y, hp, hq⟩ := hcut
    obtain ⟨a1, b1, ha1, hb1, hp1, hq1⟩ := hp.parts
    obtain ⟨a2, b2, ha2, hb2, hp2, hq2⟩ := hq.parts
    have HQ := Lib.hid (show (a1 * b2 - a2 * b1).sign = qs (p - q) by rw [hq1, hq2, rat_sub hp1 hp2, qs_parts (Int.mul_pos hp1 hp2)])
    clear hq1 hq2 hp hq h1 h2
    go_wp2_with fail
    go_region_held3 (fun w' => (w'.cell? ⟨x, 0, none⟩ = some (.bool n3) ∧ w'.cell? ⟨x, 1, none⟩ = some (.slice A3 l3 c3) ∧ w'.cell? ⟨x, 2, none⟩ = some (.bool m3) ∧ w'.cell? ⟨x, 3, none⟩ = some (.slice D3 e3 g3)) ∧ (w'.cell? ⟨y, 0, none⟩ = some (.bool n4) ∧ w'.cell? ⟨y, 1, none⟩ = some (.slice A4 l4 c4) ∧ w'.cell? ⟨y, 2, none⟩ = some (.bool m4) ∧ w'.cell? ⟨y, 3, none⟩ = some (.slice D4 e4 g4)))
      (first | (with_reducible assumption) | (exact four2 (by assumption) (by assumption)))
      (first
        | (go_at_call 93; (with_reducible refine Calls.mono (Mul_c (ha1.below (bdr (b0 _))) (hb2.below (bdr (b0 _))) (by omega) (by omega)) ?_); rintro e w1 ⟨n5, A5, l5, c5, rfl, k1, r1⟩; have bx1 := bx.dr.below k1; have by1 := b_y.dr.below k1)
        | (go_at_call 93; (with_reducible refine Calls.mono (Mul_c ((ha2.below (bdr (b0 _))).below k1) ((hb1.below (bdr (b0 _))).below k1) (by omega) (by omega)) ?_); rintro e w2 ⟨n6, A6, l6, c6, rfl, k2, r2⟩; have bx2 := bx1.below k2; have by2 := by1.below k2)
        | (go_at_call 92; (with_reducible refine Calls.mono (Cmp_c (r1.z.below k2) r2.z (by omega) (by omega)) ?_); rintro e w3 ⟨rfl, k3⟩; rw [HQ.out]; have bx3 := bx2.below k3; have by3 := by2.below k3))
    go_wp2
    go_ret
    exact ⟨rfl, (((hbw.trans ((bdr (b0 _)).mono hbw.size)).trans (k1.mono (Nat.le_trans hbw.size (Nat.le_refl _)))).trans (k2.mono (Nat.le_trans hbw.size k1.size))).trans (k3.mono (Nat.le_trans hbw.size (Nat.le_trans k1.size k2.size)))⟩
end Go.Proofs.YtdkfdamihnieiaaGreat
end
section
/- Contracts of package frac, part 7: Equal, Max, Abs, New, IsCanonical. -/
open Go Go.RowKit
namespace Go.Proofs.YtdkfdamihnieiaaGreat
open Go.Proofs
theorem qs_sub {p q : Rat} : qs (p - q) = 0 ↔ p = q := by rw [qs_zero]; grind
theorem qs_pos {p : Rat} : 0 < qs p ↔ 0 < p := by
  unfold qs
  rw [Int.sign_pos_iff]
  constructor
  · intro h
    have h1 := Rat.num_nonneg.1 (Int.le_of_lt h)
    have h2 : p ≠ 0 := by rintro rfl; simp at h
    grind
  · intro h
    have h1 : 0 ≤ p.num := Rat.num_nonneg.2 (by grind)
    have h2 : p.num ≠ 0 := by rw [Ne, Rat.num_eq_zero]; grind
    omega
theorem qs_sub_pos {p q : Rat} : 0 < qs (p - q) ↔ q < p := by rw [qs_pos]; grind
set_option maxHeartbeats 1000000 in
theorem equal_q {ok1 ok2 w va vb p q A B} (h1 : isQ ok1 w va p A) (h2 : isQ ok2 w vb q B) (hA0 : 0 < A) (hB0 : 0 < B) (hA : A ≤ 400000000) (hB : B ≤ 400000000) : Calls Tryz.prog 45 #[va, vb] w fun e w' => e = .returned (.bool (decide (p = q))) ∧ Below w.heap.size w w' := by
  obtain ⟨n1, A1, l1, c1, m1, D1, e1, g1, rfl⟩ := h1.shape
  obtain ⟨n2, A2, l2, c2, m2, D2, e2, g2, rfl⟩ := h2.shape
  obtain ⟨z0, z1, z4⟩ := z2 w.heap.size
  have hd : Hid ((qs (p - q) == 0) = decide (p = q)) := by
    unfold Hid; rw [Bool.eq_iff_iff]; simp only [beq_iff_eq, decide_eq_true_eq]; exact qs_sub
  go_enter Tryz.func45, Tryz.ntmps45
  go_wp2_with (go_at_call 31; (with_reducible refine Calls.mono (cmp_q (h1.below (bal (bal (b0 _)))) (h2.below (bal (bal (b0 _)))) hA0 hB0 hA hB) ?_); rintro e w1 ⟨rfl, hb1⟩; have Hd := hd.out; generalize qs (p - q) = sg at *; clear hd)
  go_ret
  exact ⟨rfl, bthen (bal (bal (b0 _))) hb1⟩
/-- The greater of two. -/
def mx (p q : Rat) : Rat := if q < p then p else q
set_option maxHeartbeats 1000000 in
theorem max_q {ok1 ok2 w va vb p q A B} (h1 : isQ ok1 w va p A) (h2 : isQ ok2 w vb q B) (hA0 : 0 < A) (hB0 : 0 < B) (hA : A ≤ 400000000) (hB : B ≤ 400000000) : Calls Tryz.prog 30 #[va, vb] w (RetQ w (fresh w) (mx p q)) := by
  obtain ⟨n1, A1, l1, c1, m1, D1, e1, g1, rfl⟩ := h1.shape
  obtain ⟨n2, A2, l2, c2, m2, D2, e2, g2, rfl⟩ := h2.shape
  obtain ⟨z0, z1, z2, z3, z4⟩ := z3 w.heap.size
  by_cases hc : q < p
  · have hs := Lib.hid (qs_sub_pos.2 hc)
    rw [show mx p q = p by unfold mx; rw [if_pos hc]]
    clear hc
    go_enter Tryz.func30, Tryz.ntmps30
    go_wp2_with (first
      | (go_at_call 31; (with_reducible refine Calls.mono (cmp_q (h1.below (bal (bal (bal (b0 _))))) (h2.below (bal (bal (bal (b0 _))))) hA0 hB0 hA hB) ?_); rintro e w0 ⟨rfl, hb0⟩; have Hs := hs.out; generalize qs (p - q) = sg at *; have Q0 := bthen (bal (bal (bal (b0 _)))) hb0; have B0 := Bx.step (Bx.refl (n := w.heap.size + 3) (((w.alloc (Obj.cells #[Value.bool n1, .slice A1 l1 c1, .bool m1, .slice D1 e1 g1] 44)).alloc (Obj.cells #[Value.bool n2, .slice A2 l2 c2, .bool m2, .slice D2 e2 g2] 44)).alloc (Obj.cells #[Value.bool false, .slice none 0 0, .bool false, .slice none 0 0] 44)) (by simp)) hb0; have k0 := B0.cell; have f0 := B0.frozen)
      | (go_at_call 90; (with_reducible refine Calls.mono (canon_q (h1.below Q0) hA0 hA) ?_); rintro e w1 ⟨n3, A3, l3, c3, m3, D3, e3, g3, rfl, hb1, hr⟩; have B1 := Bx.step B0 hb1; have k1 := B1.cell; have f1 := B1.frozen))
    refine bodyPost_ret (v := .agg #[.bool n3, .slice A3 l3 c3, .bool m3, .slice D3 e3 g3]) ?_ rfl ?_
    · simp [results, Tryz.results30, go_sem, k1]
    · exact RetQ.set4 (bthen Q0 hb1) hr (by omega) (by have := B0.s; omega)
  · have hs := Lib.hid (fun h => hc (qs_sub_pos.1 h))
    rw [show mx p q = q by unfold mx; rw [if_neg hc]]
    clear hc
    go_enter Tryz.func30, Tryz.ntmps30
    go_wp2_with (first
      | (go_at_call 31; (with_reducible refine Calls.mono (cmp_q (h1.below (bal (bal (bal (b0 _))))) (h2.below (bal (bal (bal (b0 _))))) hA0 hB0 hA hB) ?_); rintro e w0 ⟨rfl, hb0⟩; have Hs := hs.out; generalize qs (p - q) = sg at *; have Hs2 : decide (0 < sg) = false := (by simpa using Hs); have Q0 := bthen (bal (bal (bal (b0 _)))) hb0; have B0 := Bx.step (Bx.refl (n := w.heap.size + 3) (((w.alloc (Obj.cells #[Value.bool n1, .slice A1 l1 c1, .bool m1, .slice D1 e1 g1] 44)).alloc (Obj.cells #[Value.bool n2, .slice A2 l2 c2, .bool m2, .slice D2 e2 g2] 44)).alloc (Obj.cells #[Value.bool false, .slice none 0 0, .bool false, .slice none 0 0] 44)) (by simp)) hb0; have k0 := B0.cell; have f0 := B0.frozen)
      | (go_at_call 90; (with_reducible refine Calls.mono (canon_q (h2.below Q0) hB0 hB) ?_); rintro e w1 ⟨n3, A3, l3, c3, m3, D3, e3, g3, rfl, hb1, hr⟩; have B1 := Bx.step B0 hb1; have k1 := B1.cell; have f1 := B1.frozen))
    refine bodyPost_ret (v := .agg #[.bool n3, .slice A3 l3 c3, .bool m3, .slice D3 e3 g3]) ?_ rfl ?_
    · simp [results, Tryz.results30, go_sem, k1]
    · exact RetQ.set4 (bthen Q0 hb1) hr (by omega) (by have := B0.s; omega)
set_option maxHeartbeats 1000000 in
theorem abs_q {ok w v q B} (h : isQ ok w v q B) (hB0 : 0 < B) (hB : B ≤ 400000000) : Calls Tryz.prog 32 #[v] w (RetQ w (fresh w) (mx q (-q))) := by
  obtain ⟨n1, A1, l1, c1, m1, D1, e1, g1, rfl⟩ := h.shape
  obtain ⟨z0, z1, z4⟩ := z2 w.heap.size
  go_enter Tryz.func32, Tryz.ntmps32
  go_wp2
  go_region_held3 (fun w' => ∀ b o, b < w.heap.size + 1 → w'.cell? ⟨b, o, none⟩ = ((w.alloc (Obj.cells #[Value.bool n1, .slice A1 l1 c1, .bool m1, .slice D1 e1 g1] 44)).alloc (Obj.cells #[Value.bool false, .slice none 0 0, .bool false, .slice none 0 0] 44)).cell? ⟨b, o, none⟩)
      (first
        | (with_reducible assumption)
        | (with_reducible exact keep_set4 (by assumption) (by omega) (by omega))
        | (with_reducible exact keep_set2 (by assumption) (by omega) (by omega))
        | (with_reducible exact keep_set1 (by assumption) (by omega) (by omega))
        | (with_reducible exact keep_of (by assumption) (by omega))
        | (with_reducible exact keep_dr (by assumption) (by omega))
        | (with_reducible exact keep_start)
        | (exact fun _ _ _ => rfl))
      (first
        | (go_at_call 67; (with_reducible refine Calls.mono (neg_q (h.below (bdr (bal (bal (b0 _))))) hB0 hB) ?_); rintro e w0 ⟨n2, A2, l2, c2, m2, D2, e2, g2, rfl, hb0, hr0⟩; have Q0 := bthen (bdr (bal (bal (b0 _)))) hb0; have B0 := Bx.step ((Bx.refl (n := w.heap.size + 2) ((w.alloc (Obj.cells #[Value.bool n1, .slice A1 l1 c1, .bool m1, .slice D1 e1 g1] 44)).alloc (Obj.cells #[Value.bool false, .slice none 0 0, .bool false, .slice none 0 0] 44)) (by simp)).dr) hb0; have k0 := B0.cell; have f0 := B0.frozen)
        | (go_at_call 30; (with_reducible refine Calls.mono (max_q (h.below Q0) (hr0.q (qB_neg (h.size hB0))) hB0 hB0 hB hB) ?_); rintro e w1 ⟨n3, A3, l3, c3, m3, D3, e3, g3, rfl, hb1, hr⟩; have B1 := Bx.step B0 hb1; have k1 := B1.cell; have f1 := B1.frozen))
  go_wp2
  refine bodyPost_ret (v := .agg #[.bool n3, .slice A3 l3 c3, .bool m3, .slice D3 e3 g3]) ?_ rfl ?_
  · simp [results, Tryz.results32, go_sem, k1]
  · exact RetQ.set4 (bthen Q0 hb1) hr (by omega) (by have := B0.s; omega)
/-- The call returns a canonical rational and no error. -/
def RetQE (w : World) (ok : Nat → Prop) (q : Rat) : Ending → World → Prop := fun e w' =>
  ∃ n A l c m A2 l2 c2, e = .returned (.tuple #[.agg #[.bool n, .slice A l c, .bool m, .slice A2 l2 c2], .int .i64 0]) ∧ Below w.heap.size w w' ∧ isQc ok w' (.agg #[.bool n, .slice A l c, .bool m, .slice A2 l2 c2]) q
theorem RetQE.set4 {w w1 W : World} {n m : Bool} {A D : Option Addr} {l c e g b : Nat} {q : Rat} (hb : Below w.heap.size w w1) (hq : isQc (fresh W) w1 (.agg #[.bool n, .slice A l c, .bool m, .slice D e g]) q) (hbb : w.heap.size ≤ b) (hlt : b < W.heap.size) :
    RetQE w (fresh w) q (.returned (.tuple #[.agg #[.bool n, .slice A l c, .bool m, .slice D e g], .int .i64 0])) ((((w1.setCell ⟨b, 0, none⟩ (.bool n)).setCell ⟨b, 1, none⟩ (.slice A l c)).setCell ⟨b, 2, none⟩ (.bool m)).setCell ⟨b, 3, none⟩ (.slice D e g)) :=
  ⟨n, A, l, c, m, D, e, g, rfl, b4set hb hbb, (hq.set4 (by unfold fresh; omega)).mono (fun k _ hk => by unfold fresh at *; omega)⟩
theorem sign_beq {a : Int} (h : a ≠ 0) : (a == 0) = false := by simpa using h
set_option maxHeartbeats 1000000 in
theorem new_q {w} (a b : Int) (h1 : -9223372036854775808 ≤ a) (h2 : a ≤ 9223372036854775807) (h3 : -9223372036854775808 ≤ b) (h4 : b ≤ 9223372036854775807) (hb : b ≠ 0) : Calls Tryz.prog 131 #[.int .i64 a, .int .i64 b] w (RetQE w (fresh w) ((a : Rat) / (b : Rat))) := by
  obtain ⟨z0, z1, z4⟩ := z2 w.heap.size
  have hb' := sign_beq hb
  have Hb := Lib.hid hb
  clear hb
  rw [← qv_pos Hb.out]
  go_enter Tryz.func131, Tryz.ntmps131
  go_wp2_with (first
    | (go_at_call 117; (with_reducible refine Calls.mono (fromInt64_c a h1 h2) ?_); rintro e w1 ⟨n1, A1, l1, c1, rfl, k1, r1⟩; have B1 := Bx.step (Bx.refl (n := w.heap.size + 1) (w.alloc (Obj.cells #[Value.bool false, .slice none 0 0, .bool false, .slice none 0 0] 44)) (by simp)) k1)
    | (go_at_call 117; (with_reducible refine Calls.mono (fromInt64_c b h3 h4) ?_); rintro e w2 ⟨n2, A2, l2, c2, rfl, k2, r2⟩; have B2 := Bx.step B1 k2; have hq := isQ.mk ((r1.z.below k2).any (Nat.le_refl _)) (r2.z.any (Nat.le_refl _)))
    | (go_at_call 90; (with_reducible refine Calls.mono (canon_q hq (by omega) (by omega)) ?_); rintro e w3 ⟨n3, A3, l3, c3, m3, D3, e3, g3, rfl, k3, r3⟩; have B3 := Bx.step B2 k3; have j3 := B3.cell; have f3 := B3.frozen))
  refine bodyPost_ret (v := .tuple #[.agg #[.bool n3, .slice A3 l3 c3, .bool m3, .slice D3 e3 g3], .int .i64 0]) ?_ rfl ?_
  · simp [results, Tryz.results131, go_sem, j3]
  · exact RetQE.set4 (bthen (bthen (bthen (bal (b0 _)) k1) k2) k3) r3 (by omega) (by have := B2.s; omega)
end Go.Proofs.YtdkfdamihnieiaaGreat
end
section
/- Vectors of rationals in memory. -/
open Go Go.RowKit
namespace Go.Proofs.YtdkfdamihnieiaaGreat
open Go.Proofs

/-- Not a word: a store over it turns no magnitude. -/
def vk (u : Value) : Prop := ∀ z, u ≠ .int .u32 z
theorem vk_bool (b : Bool) : vk (.bool b) := fun z h => by cases h
theorem vk_slice (A : Option Addr) (l c : Nat) : vk (.slice A l c) := fun z h => by cases h
theorem vk_ptr (A : Option Addr) : vk (.pointer A) := fun z h => by cases h
theorem vk_i64 (z : Int) : vk (.int .i64 z) := fun z h => by cases h
theorem cell_ne {w : World} {a p : Addr} {u x v : Value} (hu : w.cell? a = some u) (hv : w.cell? p = some v) (hne : u ≠ v) : (w.setCell a x).cell? p = some v := by
  rw [World.cell?_setCell_other]
  · exact hv
  · rintro rfl; rw [hu] at hv; injection hv with hv; exact hne hv
theorem Rd.setX {ok w A c ws} (h : Rd ok w A c ws) {a : Addr} {u v} (hu : w.cell? a = some u) (hk : vk u) : Rd ok (w.setCell a v) A c ws := by
  refine ⟨h.cap, h.lim, h.okw, fun h0 => ?_⟩
  obtain ⟨b, o, hA, hok, hc⟩ := h.cells h0
  exact ⟨b, o, hA, hok, fun j hj => cell_ne hu (hc j hj) (hk _)⟩
theorem Wd.setX {ok w s ws} (h : Wd ok w s ws) {a : Addr} {u v} (hu : w.cell? a = some u) (hk : vk u) : Wd ok (w.setCell a v) s ws := by obtain ⟨A, c, e, h⟩ := h; exact ⟨A, c, e, h.setX hu hk⟩
theorem isZ.setX {ok w s z B} (h : isZ ok w s z B) {a : Addr} {u v} (hu : w.cell? a = some u) (hk : vk u) : isZ ok (w.setCell a v) s z B := by
  obtain ⟨n, s, ws, h1, h2, h3, h4⟩ := h; exact ⟨n, s, ws, h1, h2.setX hu hk, h3, h4⟩
theorem isZc.setX {ok w s z B} (h : isZc ok w s z B) {a : Addr} {u v} (hu : w.cell? a = some u) (hk : vk u) : isZc ok (w.setCell a v) s z B := by
  obtain ⟨s, h1, h2, h3⟩ := h; exact ⟨s, h1, h2.setX hu hk, h3⟩
theorem isQ.setX {ok w x q B} (h : isQ ok w x q B) {a : Addr} {u v} (hu : w.cell? a = some u) (hk : vk u) : isQ ok (w.setCell a v) x q B := by
  obtain ⟨n, s, m, t, a, b, e, h1, h2, h3⟩ := h; exact ⟨n, s, m, t, a, b, e, h1.setX hu hk, h2.setX hu hk, h3⟩
theorem isQc.setX {ok w x q} (h : isQc ok w x q) {a : Addr} {u v} (hu : w.cell? a = some u) (hk : vk u) : isQc ok (w.setCell a v) x q := by
  obtain ⟨n, s, m, t, B, e, h1, h2⟩ := h; exact ⟨n, s, m, t, B, e, h1.setX hu hk, h2.setX hu hk⟩
theorem isQc.any {ok : Nat → Prop} {w v z} (h : isQc ok w v z) : isQc (fun _ => True) w v z := h.mono (fun _ _ _ => trivial)

/-- How an element is read. -/
abbrev Elt := World → Value → Rat → Prop
structure Stable (E : Elt) : Prop where
  below : ∀ {w w' v q}, E w v q → Below w.heap.size w w' → E w' v q
  set : ∀ {w v q} {a : Addr} {u x : Value}, E w v q → w.cell? a = some u → vk u → E (w.setCell a x) v q
/-- Elements as they come in. -/
def rq (B : Nat) : Elt := fun w v q => isQ (fun _ => True) w v q B
/-- Elements in canonical form. -/
def cq : Elt := fun w v q => isQc (fun _ => True) w v q
theorem rq_stable (B : Nat) : Stable (rq B) := ⟨fun h hb => isQ.below h hb, fun h hu hk => isQ.setX h hu hk⟩
theorem cq_stable : Stable cq := ⟨fun h hb => isQc.below h hb, fun h hu hk => isQc.setX h hu hk⟩
theorem cq_rq {w v q B} (h : cq w v q) (hB : qB q B) : rq B w v q := isQc.q h hB
/-- A block's type. -/
def tg (w : World) (b : Nat) (T : TypeId) : Prop := ∃ cs fz, w.heap[b]? = some (.cells cs T fz)
theorem tg.below {w w' b T} (h : tg w b T) (hb : Below w.heap.size w w') : tg w' b T := by
  obtain ⟨cs, fz, h⟩ := h
  exact ⟨cs, fz, (hb.block b (Array.getElem?_eq_some_iff.1 h).1).trans h⟩
theorem tg.set {w b T} (h : tg w b T) {a : Addr} {v : Value} : tg (w.setCell a v) b T := by
  obtain ⟨cs, fz, h⟩ := h
  by_cases hne : b = a.block
  · subst hne
    obtain ⟨hlt, hk⟩ := Array.getElem?_eq_some_iff.1 h
    refine ⟨if a.spot.isSome then cs else cs.setIfInBounds a.off v, fz, ?_⟩
    show (w.heap.modify a.block _)[a.block]? = _
    rw [Array.getElem?_eq_getElem (by rw [Array.size_modify]; exact hlt), Array.getElem_modify_self, hk]
  · exact ⟨cs, fz, (Below.heap_setCell _ _ _ _ hne).trans h⟩
theorem tg.ne {w b b' T T'} (h : tg w b T) (h' : tg w b' T') (hT : T ≠ T') : b ≠ b' := by
  rintro rfl
  obtain ⟨cs, fz, h⟩ := h
  obtain ⟨cs', fz', h'⟩ := h'
  rw [h] at h'; injection h' with h'; injection h' with _ h' _; exact hT h'
/-- A rational's four cells. -/
structure Qx where
  n : Bool
  s : Value
  m : Bool
  t : Value
def Qx.cs (x : Qx) : List Value := [.bool x.n, x.s, .bool x.m, x.t]
def Qx.v (x : Qx) : Value := .agg #[.bool x.n, x.s, .bool x.m, x.t]
/-- A slice of rationals that is read. -/
structure Rv (n0 : Nat) (E : Elt) (w : World) (A : Option Addr) (c : Nat) (qs : List Rat) : Prop where
  cap : qs.length ≤ c
  lim : c ≤ maxLen
  cells : 0 < qs.length → ∃ b o, A = some ⟨b, o, none⟩ ∧ (b < n0 ∨ tg w b 44) ∧ ∀ j, j < qs.length → ∃ x : Qx, E w x.v (qs.getD j 0) ∧ ∀ i, i < 4 → w.cell? ⟨b, o + j * 4 + i, none⟩ = x.cs[i]?
def Vq (n0 : Nat) (E : Elt) (w : World) (v : Value) (qs : List Rat) : Prop := ∃ A c, v = .slice A qs.length c ∧ Rv n0 E w A c qs
theorem Vq.shape {n0 E w v qs} (h : Vq n0 E w v qs) : ∃ A l c, v = .slice A l c := by obtain ⟨A, c, rfl, _⟩ := h; exact ⟨_, _, _, rfl⟩
theorem Vq.len_eq {n0 E w A l c qs} (h : Vq n0 E w (.slice A l c) qs) : l = qs.length := by obtain ⟨A', c', e, _⟩ := h; injection e
theorem Vq.rv {n0 E w A l c qs} (h : Vq n0 E w (.slice A l c) qs) : Rv n0 E w A c qs := by obtain ⟨A', c', e, h⟩ := h; injection e with e1 e2 e3; subst e1 e3; exact h
theorem Rv.below {n0 E w w' A c qs} (hE : Stable E) (h : Rv n0 E w A c qs) (hb : Below w.heap.size w w') : Rv n0 E w' A c qs := by
  refine ⟨h.cap, h.lim, fun h0 => ?_⟩
  obtain ⟨b, o, hA, hok, hc⟩ := h.cells h0
  refine ⟨b, o, hA, hok.imp_right (fun h => h.below hb), fun j hj => ?_⟩
  obtain ⟨x, hx, hcs⟩ := hc j hj
  refine ⟨x, hE.below hx hb, fun i hi => ?_⟩
  obtain ⟨u, hu⟩ : ∃ u, x.cs[i]? = some u := by
    have : i < x.cs.length := hi
    exact ⟨_, List.getElem?_eq_getElem this⟩
  rw [hu]
  have h1 := hcs i hi
  rw [hu] at h1
  exact (hb.cell (World.block_lt_of_cell? w _ h1)).trans h1
theorem Vq.below {n0 E w w' v qs} (hE : Stable E) (h : Vq n0 E w v qs) (hb : Below w.heap.size w w') : Vq n0 E w' v qs := by obtain ⟨A, c, e, h⟩ := h; exact ⟨A, c, e, h.below hE hb⟩
theorem Vq.nil {n0 E w c} (h : c ≤ maxLen) {A} : Vq n0 E w (.slice A 0 c) [] := ⟨A, c, rfl, Nat.zero_le _, h, fun h => by simp at h⟩
/-- A store into a block of another type, or into another block. -/
theorem Rv.setX {n0 E w A c qs} (hE : Stable E) (h : Rv n0 E w A c qs) {a : Addr} {u x : Value} (hu : w.cell? a = some u) (hk : vk u) (hne : ∀ b, n0 ≤ b → tg w b 44 → a.block ≠ b) (hn0 : n0 ≤ a.block) : Rv n0 E (w.setCell a x) A c qs := by
  refine ⟨h.cap, h.lim, fun h0 => ?_⟩
  obtain ⟨b, o, hA, hok, hc⟩ := h.cells h0
  refine ⟨b, o, hA, hok.imp_right (fun h => h.set), fun j hj => ?_⟩
  obtain ⟨y, hy, hcs⟩ := hc j hj
  refine ⟨y, hE.set hy hu hk, fun i hi => ?_⟩
  rw [← hcs i hi]
  refine World.cell?_of_block (w := w) (Below.heap_setCell _ _ _ _ ?_)
  show b ≠ a.block
  rcases hok with h1 | h1
  · omega
  · by_cases h2 : b < n0
    · omega
    · exact (hne b (by omega) h1).symm
end Go.Proofs.YtdkfdamihnieiaaGreat
end
section
/- Contracts of package vec, part 1: at. -/
open Go Go.RowKit
namespace Go.Proofs.YtdkfdamihnieiaaGreat
open Go.Proofs
theorem Tryz.under26 : Tryz.prog.underlying 26 = some (.slice 44) := by kernel_rfl
theorem Tryz.info44 : (Tryz.prog.info? 44).map (fun i => (i.zero, i.size, i.bytes)) = some (some (.agg #[.bool false, .slice none 0 0, .bool false, .slice none 0 0]), 4, 64) := by kernel_rfl
theorem Vq.elem {n0 E w A l c qs} (h : Vq n0 E w (.slice A l c) qs) {k : Nat} (hk : k < l) : ∃ b o n s m t, A = some ⟨b, o, none⟩ ∧ E w (.agg #[.bool n, s, .bool m, t]) (qs.getD k 0) ∧ w.cell? ⟨b, o + k * 4, none⟩ = some (.bool n) ∧ w.cell? ⟨b, o + k * 4 + 1, none⟩ = some s ∧ w.cell? ⟨b, o + k * 4 + 2, none⟩ = some (.bool m) ∧ w.cell? ⟨b, o + k * 4 + 3, none⟩ = some t := by
  have hl := h.len_eq
  obtain ⟨b, o, hA, _, hc⟩ := h.rv.cells (by omega)
  obtain ⟨x, hx, hcs⟩ := hc k (by omega)
  exact ⟨b, o, x.n, x.s, x.m, x.t, hA, hx, hcs 0 (by omega), hcs 1 (by omega), hcs 2 (by omega), hcs 3 (by omega)⟩
theorem isQ.slices {ok w n s m t q B} (h : isQ ok w (.agg #[.bool n, s, .bool m, t]) q B) : (∃ A l c, s = .slice A l c) ∧ (∃ A l c, t = .slice A l c) := by
  obtain ⟨a, b, h1, h2, _⟩ := h.parts; exact ⟨h1.slc, h2.slc⟩
theorem isQc.slices {ok w n s m t q} (h : isQc ok w (.agg #[.bool n, s, .bool m, t]) q) : (∃ A l c, s = .slice A l c) ∧ (∃ A l c, t = .slice A l c) := by
  obtain ⟨B, h1, h2⟩ := h.parts; exact ⟨h1.z.slc, h2.z.slc⟩
/-- An element that is a rational. -/
structure Ratl (E : Elt) : Prop extends Stable E where
  zero : ∀ w, E w (.agg #[.bool false, .slice none 0 0, .bool false, .slice none 0 0]) 0
  slices : ∀ {w n s m t q}, E w (.agg #[.bool n, s, .bool m, t]) q → (∃ A l c, s = .slice A l c) ∧ (∃ A l c, t = .slice A l c)
theorem rq_ratl {B : Nat} (h : 0 < B) : Ratl (rq B) := { rq_stable B with zero := fun _ => isQ.zero h, slices := fun h => isQ.slices h }
theorem cq_ratl : Ratl cq := { cq_stable with zero := fun _ => isQc.zero, slices := fun h => isQc.slices h }
/-- The call returns a rational that is read so. -/
def RetE (w : World) (E : Elt) (q : Rat) : Ending → World → Prop := fun e w' =>
  ∃ n A l c m A2 l2 c2, e = .returned (.agg #[.bool n, .slice A l c, .bool m, .slice A2 l2 c2]) ∧ Below w.heap.size w w' ∧ E w' (.agg #[.bool n, .slice A l c, .bool m, .slice A2 l2 c2]) q
/-- A store of a rational over a rational, or over a zero one. -/
theorem Stable.set4 {E : Elt} (hE : Stable E) {w v q b o n A l c m D l2 c2 x y z u} (h : E w v q) (hc : w.cell? ⟨b, o, none⟩ = some (.bool n) ∧ w.cell? ⟨b, o + 1, none⟩ = some (.slice A l c) ∧ w.cell? ⟨b, o + 2, none⟩ = some (.bool m) ∧ w.cell? ⟨b, o + 3, none⟩ = some (.slice D l2 c2)) :
    E ((((w.setCell ⟨b, o, none⟩ x).setCell ⟨b, o + 1, none⟩ y).setCell ⟨b, o + 2, none⟩ z).setCell ⟨b, o + 3, none⟩ u) v q := by
  obtain ⟨h0, h1, h2, h3⟩ := hc
  have ne : ∀ {i j : Nat}, i ≠ j → (⟨b, i, none⟩ : Addr) ≠ ⟨b, j, none⟩ := fun h e => by injection e with _ e _; exact h e
  have k1 := World.cell?_setCell_other w ⟨b, o, none⟩ ⟨b, o + 1, none⟩ x (ne (by omega))
  have k2 := World.cell?_setCell_other w ⟨b, o, none⟩ ⟨b, o + 2, none⟩ x (ne (by omega))
  have k3 := World.cell?_setCell_other w ⟨b, o, none⟩ ⟨b, o + 3, none⟩ x (ne (by omega))
  have a1 := k1.trans h1
  have a2 := k2.trans h2
  have a3 := k3.trans h3
  have b2 := (World.cell?_setCell_other _ ⟨b, o + 1, none⟩ ⟨b, o + 2, none⟩ y (ne (by omega))).trans a2
  have b3 := (World.cell?_setCell_other _ ⟨b, o + 1, none⟩ ⟨b, o + 3, none⟩ y (ne (by omega))).trans a3
  have c3 := (World.cell?_setCell_other _ ⟨b, o + 2, none⟩ ⟨b, o + 3, none⟩ z (ne (by omega))).trans b3
  exact hE.set (hE.set (hE.set (hE.set h h0 (vk_bool _)) a1 (vk_slice _ _ _)) b2 (vk_bool _)) c3 (vk_slice _ _ _)
set_option maxHeartbeats 1000000 in
theorem at_c {n0 : Nat} {E : Elt} (hE : Ratl E) {w v qs} (h : Vq n0 E w v qs) (k : Nat) (hk : k ≤ 9223372036854775807) : Calls Tryz.prog 111 #[v, .int .i64 (k : Int)] w (RetE w E (qs.getD k 0)) := by
  obtain ⟨A, l, c, rfl⟩ := h.shape
  have hl := h.len_eq
  have hm : l ≤ 9223372036854775807 := by have h1 := h.rv.cap; have h2 := h.rv.lim; unfold maxLen at h2; omega
  by_cases hlt : k < l
  · obtain ⟨b, o, n, s, m, t, rfl, hx, x0, x1, x2, x3⟩ := h.elem hlt
    obtain ⟨⟨A1, l1, c1, rfl⟩, A2, l2, c2, rfl⟩ := hE.slices hx
    have hb := World.block_lt_of_cell? w _ x0
    simp only at hb
    have hne : w.heap.size ≠ b := by omega
    have hc := hl
    clear hl
    go_enter Tryz.func111, Tryz.ntmps111
    go_wp2
    refine bodyPost_ret (v := .agg #[.bool n, .slice A1 l1 c1, .bool m, .slice A2 l2 c2]) ?_ rfl ?_
    · simp [results, Tryz.results111, go_sem]
    · exact ⟨_, _, _, _, _, _, _, _, rfl, bal (b0 _), hE.below hx (bal (b0 _))⟩
  · rw [show qs.getD k 0 = 0 by rw [List.getD_eq_getElem?_getD, List.getElem?_eq_none (by omega)]; rfl]
    have hlt' : ¬ (k : Int) < (l : Int) := by omega
    have hlt2 : decide (k < l) = false := by simpa using hlt
    clear hlt hl
    go_enter Tryz.func111, Tryz.ntmps111
    go_wp2
    refine bodyPost_ret (v := .agg #[.bool false, .slice none 0 0, .bool false, .slice none 0 0]) ?_ rfl ?_
    · simp [results, Tryz.results111, go_sem]
    · exact ⟨_, _, _, _, _, _, _, _, rfl, bal (b0 _), hE.zero _⟩
end Go.Proofs.YtdkfdamihnieiaaGreat
end
