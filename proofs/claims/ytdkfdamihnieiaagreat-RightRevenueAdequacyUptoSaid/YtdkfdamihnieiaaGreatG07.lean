/- Contracts of package frac, part 3: the four operations. -/
import Derived.Test.YtdkfdamihnieiaaGreatG06
set_option linter.unusedSimpArgs false
set_option linter.unusedVariables false
section
open Go Go.RowKit
namespace Go.Proofs.YtdkfdamihnieiaaGreat
open Go.Proofs
theorem rat_ne {b : Int} (h : 0 < b) : (b : Rat) ≠ 0 := by
  have : b ≠ 0 := by omega
  simpa using this
theorem rat_add {a1 b1 a2 b2 : Int} (h1 : 0 < b1) (h2 : 0 < b2) : (a1 : Rat) / b1 + (a2 : Rat) / b2 = ((a1 * b2 + a2 * b1 : Int) : Rat) / ((b1 * b2 : Int) : Rat) := by
  have := rat_ne h1; have := rat_ne h2
  simp only [Rat.intCast_mul, Rat.intCast_add]; grind
theorem rat_sub {a1 b1 a2 b2 : Int} (h1 : 0 < b1) (h2 : 0 < b2) : (a1 : Rat) / b1 - (a2 : Rat) / b2 = ((a1 * b2 - a2 * b1 : Int) : Rat) / ((b1 * b2 : Int) : Rat) := by
  have := rat_ne h1; have := rat_ne h2
  simp only [Rat.intCast_mul, Rat.intCast_sub]; grind
theorem rat_mul {a1 b1 a2 b2 : Int} (h1 : 0 < b1) (h2 : 0 < b2) : (a1 : Rat) / b1 * ((a2 : Rat) / b2) = ((a1 * a2 : Int) : Rat) / ((b1 * b2 : Int) : Rat) := by
  have := rat_ne h1; have := rat_ne h2
  simp only [Rat.intCast_mul]; grind
theorem rat_div {a1 b1 a2 b2 : Int} (h1 : 0 < b1) (h2 : 0 < b2) (h : (a2 : Rat) / b2 ≠ 0) : (a1 : Rat) / b1 / ((a2 : Rat) / b2) = qv (a1 * b2) (b1 * a2) := by
  have g1 := rat_ne h1; have g2 := rat_ne h2
  have g3 : a2 ≠ 0 := by rintro rfl; apply h; simp [Rat.div_def]
  have g4 : (a2 : Rat) ≠ 0 := by simpa using g3
  rw [qv_pos (Int.mul_ne_zero (by omega) g3)]
  simp only [Rat.intCast_mul]; grind
theorem isQ.mk {ok w n s m t a b B} (h1 : isZ ok w (.agg #[.bool n, s]) a B) (h2 : isZ ok w (.agg #[.bool m, t]) b B) : isQ ok w (.agg #[.bool n, s, .bool m, t]) (qv a b) B := ⟨n, s, m, t, a, b, rfl, h1, h2, rfl⟩
theorem Int.mul_pos' {a b : Int} (h1 : 0 < a) (h2 : 0 < b) : 0 < a * b := Int.mul_pos h1 h2
set_option maxRecDepth 100000 in
set_option maxHeartbeats 2000000 in
theorem padd_c {ok1 ok2 w va vb p q A B} (h1 : isP ok1 w va p A) (h2 : isP ok2 w vb q B) (hA : A ≤ 400000000) (hB : B ≤ 400000000) : Calls Tryz.prog 163 #[va, vb] w (RetP w (fresh w) (p + q) (A + B + 1)) := by
  obtain ⟨n1, A1, l1, c1, m1, D1, e1, g1, rfl⟩ := h1.shape
  obtain ⟨n2, A2, l2, c2, m2, D2, e2, g2, rfl⟩ := h2.shape
  obtain ⟨a1, b1, ha1, hb1, hp1, hq1⟩ := h1.parts
  obtain ⟨a2, b2, ha2, hb2, hp2, hq2⟩ := h2.parts
  have HQ1 := Lib.hid hq1
  have HQ2 := Lib.hid hq2
  clear hq1 hq2 h1 h2
  obtain ⟨z0, z1, z2, z3, z4⟩ := z3 w.heap.size
  have Q0 := bdr (bal (o := (Obj.cells #[Value.bool false, .slice none 0 0, .bool false, .slice none 0 0] 107)) (bal (o := (Obj.cells #[Value.bool n2, .slice A2 l2 c2, .bool m2, .slice D2 e2 g2] 107)) (bal (o := (Obj.cells #[Value.bool n1, .slice A1 l1 c1, .bool m1, .slice D1 e1 g1] 107)) (b0 w))))
  go_enter Tryz.func163, Tryz.ntmps163
  go_wp2
  go_region_held3 (fun w' => ∀ b o, b < w.heap.size + 1 + 1 → w'.cell? ⟨b, o, none⟩ = (((w.alloc (Obj.cells #[Value.bool n1, .slice A1 l1 c1, .bool m1, .slice D1 e1 g1] 107)).alloc (Obj.cells #[Value.bool n2, .slice A2 l2 c2, .bool m2, .slice D2 e2 g2] 107)).alloc (Obj.cells #[Value.bool false, .slice none 0 0, .bool false, .slice none 0 0] 107)).cell? ⟨b, o, none⟩)
      (first
        | (with_reducible assumption)
        | (with_reducible exact keep_set4 (by assumption) (by omega) (by omega))
        | (with_reducible exact keep_set2 (by assumption) (by omega) (by omega))
        | (with_reducible exact keep_set1 (by assumption) (by omega) (by omega))
        | (with_reducible exact keep_of (by assumption) (by omega))
        | (with_reducible exact keep_dr (by assumption) (by omega))
        | (with_reducible exact keep_start)
        | (exact fun _ _ _ => rfl))
      (first
        | (go_at_call 93; (with_reducible refine Calls.mono (Mul_c (ha1.below Q0) (hb2.below Q0) (by omega) (by omega)) ?_); rintro e w1 ⟨n5, A5, l5, c5, rfl, k1, r1⟩; have Q1 := bthen Q0 k1; have B1 := Bx.step ((Bx.refl (n := w.heap.size + 3) (((w.alloc (Obj.cells #[Value.bool n1, .slice A1 l1 c1, .bool m1, .slice D1 e1 g1] 107)).alloc (Obj.cells #[Value.bool n2, .slice A2 l2 c2, .bool m2, .slice D2 e2 g2] 107)).alloc (Obj.cells #[Value.bool false, .slice none 0 0, .bool false, .slice none 0 0] 107)) (by simp)).dr) k1; have j1 := B1.cell; have f1 := B1.frozen; have s1 := B1.s)
        | (go_at_call 93; (with_reducible refine Calls.mono (Mul_c (ha2.below Q1) (hb1.below Q1) (by omega) (by omega)) ?_); rintro e w2 ⟨n6, A6, l6, c6, rfl, k2, r2⟩; have Q2 := bthen Q1 k2; have B2 := Bx.step B1 k2; have j2 := B2.cell; have f2 := B2.frozen; have s2 := B2.s)
        | (go_at_call 164; (with_reducible refine Calls.mono (Add_c (r1.z.below k2) r2.z (by omega) (by omega)) ?_); rintro e w3 ⟨n7, A7, l7, c7, rfl, k3, r3⟩; have Q3 := bthen Q2 k3; have B3 := Bx.step B2 k3; have j3 := B3.cell; have f3 := B3.frozen; have s3 := B3.s)
        | (go_at_call 93; (with_reducible refine Calls.mono (Mul_c (hb1.below Q3) (hb2.below Q3) (by omega) (by omega)) ?_); rintro e w4 ⟨n8, A8, l8, c8, rfl, k4, r4⟩; have Q4 := bthen Q3 k4; have B4 := Bx.step B3 k4; have j4 := B4.cell; have f4 := B4.frozen; have s4 := B4.s))
  go_wp2
  refine bodyPost_ret (v := .agg #[.bool n7, .slice A7 l7 c7, .bool n8, .slice A8 l8 c8]) ?_ rfl ?_
  · simp [results, Tryz.results163, go_sem, *]
  · refine ⟨n7, A7, l7, c7, n8, A8, l8, c8, rfl, b4set Q4 (by omega), _, _, _, _, a1 * b2 + a2 * b1, b1 * b2, rfl, ((r3.below k4).z.set4 ?_).mono (fun k _ hk => by simp [fresh] at *; omega) (by omega), (r4.z.set4 ?_).mono (fun k _ hk => by simp [fresh] at *; omega) (by omega), Int.mul_pos hp1 hp2, ?_⟩
    · (first | omega | (simp; done) | (simp; omega) | (simp [fresh]; done) | (simp [fresh]; omega))
    · (first | omega | (simp; done) | (simp; omega) | (simp [fresh]; done) | (simp [fresh]; omega))
    · rw [HQ1.out, HQ2.out]; exact rat_add hp1 hp2
set_option maxRecDepth 100000 in
set_option maxHeartbeats 2000000 in
theorem psub_c {ok1 ok2 w va vb p q A B} (h1 : isP ok1 w va p A) (h2 : isP ok2 w vb q B) (hA : A ≤ 400000000) (hB : B ≤ 400000000) : Calls Tryz.prog 165 #[va, vb] w (RetP w (fresh w) (p - q) (A + B + 1)) := by
  obtain ⟨n1, A1, l1, c1, m1, D1, e1, g1, rfl⟩ := h1.shape
  obtain ⟨n2, A2, l2, c2, m2, D2, e2, g2, rfl⟩ := h2.shape
  obtain ⟨a1, b1, ha1, hb1, hp1, hq1⟩ := h1.parts
  obtain ⟨a2, b2, ha2, hb2, hp2, hq2⟩ := h2.parts
  have HQ1 := Lib.hid hq1
  have HQ2 := Lib.hid hq2
  clear hq1 hq2 h1 h2
  obtain ⟨z0, z1, z2, z3, z4⟩ := z3 w.heap.size
  have Q0 := bdr (bal (o := (Obj.cells #[Value.bool false, .slice none 0 0, .bool false, .slice none 0 0] 107)) (bal (o := (Obj.cells #[Value.bool n2, .slice A2 l2 c2, .bool m2, .slice D2 e2 g2] 107)) (bal (o := (Obj.cells #[Value.bool n1, .slice A1 l1 c1, .bool m1, .slice D1 e1 g1] 107)) (b0 w))))
  go_enter Tryz.func165, Tryz.ntmps165
  go_wp2
  go_region_held3 (fun w' => ∀ b o, b < w.heap.size + 1 + 1 → w'.cell? ⟨b, o, none⟩ = (((w.alloc (Obj.cells #[Value.bool n1, .slice A1 l1 c1, .bool m1, .slice D1 e1 g1] 107)).alloc (Obj.cells #[Value.bool n2, .slice A2 l2 c2, .bool m2, .slice D2 e2 g2] 107)).alloc (Obj.cells #[Value.bool false, .slice none 0 0, .bool false, .slice none 0 0] 107)).cell? ⟨b, o, none⟩)
      (first
        | (with_reducible assumption)
        | (with_reducible exact keep_set4 (by assumption) (by omega) (by omega))
        | (with_reducible exact keep_set2 (by assumption) (by omega) (by omega))
        | (with_reducible exact keep_set1 (by assumption) (by omega) (by omega))
        | (with_reducible exact keep_of (by assumption) (by omega))
        | (with_reducible exact keep_dr (by assumption) (by omega))
        | (with_reducible exact keep_start)
        | (exact fun _ _ _ => rfl))
      (first
        | (go_at_call 93; (with_reducible refine Calls.mono (Mul_c (ha1.below Q0) (hb2.below Q0) (by omega) (by omega)) ?_); rintro e w1 ⟨n5, A5, l5, c5, rfl, k1, r1⟩; have Q1 := bthen Q0 k1; have B1 := Bx.step ((Bx.refl (n := w.heap.size + 3) (((w.alloc (Obj.cells #[Value.bool n1, .slice A1 l1 c1, .bool m1, .slice D1 e1 g1] 107)).alloc (Obj.cells #[Value.bool n2, .slice A2 l2 c2, .bool m2, .slice D2 e2 g2] 107)).alloc (Obj.cells #[Value.bool false, .slice none 0 0, .bool false, .slice none 0 0] 107)) (by simp)).dr) k1; have j1 := B1.cell; have f1 := B1.frozen; have s1 := B1.s)
        | (go_at_call 93; (with_reducible refine Calls.mono (Mul_c (ha2.below Q1) (hb1.below Q1) (by omega) (by omega)) ?_); rintro e w2 ⟨n6, A6, l6, c6, rfl, k2, r2⟩; have Q2 := bthen Q1 k2; have B2 := Bx.step B1 k2; have j2 := B2.cell; have f2 := B2.frozen; have s2 := B2.s)
        | (go_at_call 166; (with_reducible refine Calls.mono (Sub_c (r1.z.below k2) r2.z (by omega) (by omega)) ?_); rintro e w3 ⟨n7, A7, l7, c7, rfl, k3, r3⟩; have Q3 := bthen Q2 k3; have B3 := Bx.step B2 k3; have j3 := B3.cell; have f3 := B3.frozen; have s3 := B3.s)
        | (go_at_call 93; (with_reducible refine Calls.mono (Mul_c (hb1.below Q3) (hb2.below Q3) (by omega) (by omega)) ?_); rintro e w4 ⟨n8, A8, l8, c8, rfl, k4, r4⟩; have Q4 := bthen Q3 k4; have B4 := Bx.step B3 k4; have j4 := B4.cell; have f4 := B4.frozen; have s4 := B4.s))
  go_wp2
  refine bodyPost_ret (v := .agg #[.bool n7, .slice A7 l7 c7, .bool n8, .slice A8 l8 c8]) ?_ rfl ?_
  · simp [results, Tryz.results165, go_sem, *]
  · refine ⟨n7, A7, l7, c7, n8, A8, l8, c8, rfl, b4set Q4 (by omega), _, _, _, _, a1 * b2 - a2 * b1, b1 * b2, rfl, ((r3.below k4).z.set4 ?_).mono (fun k _ hk => by simp [fresh] at *; omega) (by omega), (r4.z.set4 ?_).mono (fun k _ hk => by simp [fresh] at *; omega) (by omega), Int.mul_pos hp1 hp2, ?_⟩
    · (first | omega | (simp; done) | (simp; omega) | (simp [fresh]; done) | (simp [fresh]; omega))
    · (first | omega | (simp; done) | (simp; omega) | (simp [fresh]; done) | (simp [fresh]; omega))
    · rw [HQ1.out, HQ2.out]; exact rat_sub hp1 hp2
set_option maxRecDepth 100000 in
set_option maxHeartbeats 2000000 in
theorem pmul_c {ok1 ok2 w va vb p q A B} (h1 : isP ok1 w va p A) (h2 : isP ok2 w vb q B) (hA : A ≤ 400000000) (hB : B ≤ 400000000) : Calls Tryz.prog 167 #[va, vb] w (RetP w (fresh w) (p * q) (A + B)) := by
  obtain ⟨n1, A1, l1, c1, m1, D1, e1, g1, rfl⟩ := h1.shape
  obtain ⟨n2, A2, l2, c2, m2, D2, e2, g2, rfl⟩ := h2.shape
  obtain ⟨a1, b1, ha1, hb1, hp1, hq1⟩ := h1.parts
  obtain ⟨a2, b2, ha2, hb2, hp2, hq2⟩ := h2.parts
  have HQ1 := Lib.hid hq1
  have HQ2 := Lib.hid hq2
  clear hq1 hq2 h1 h2
  obtain ⟨z0, z1, z2, z3, z4⟩ := z3 w.heap.size
  have Q0 := bdr (bal (o := (Obj.cells #[Value.bool false, .slice none 0 0, .bool false, .slice none 0 0] 107)) (bal (o := (Obj.cells #[Value.bool n2, .slice A2 l2 c2, .bool m2, .slice D2 e2 g2] 107)) (bal (o := (Obj.cells #[Value.bool n1, .slice A1 l1 c1, .bool m1, .slice D1 e1 g1] 107)) (b0 w))))
  go_enter Tryz.func167, Tryz.ntmps167
  go_wp2
  go_region_held3 (fun w' => ∀ b o, b < w.heap.size + 1 + 1 → w'.cell? ⟨b, o, none⟩ = (((w.alloc (Obj.cells #[Value.bool n1, .slice A1 l1 c1, .bool m1, .slice D1 e1 g1] 107)).alloc (Obj.cells #[Value.bool n2, .slice A2 l2 c2, .bool m2, .slice D2 e2 g2] 107)).alloc (Obj.cells #[Value.bool false, .slice none 0 0, .bool false, .slice none 0 0] 107)).cell? ⟨b, o, none⟩)
      (first
        | (with_reducible assumption)
        | (with_reducible exact keep_set4 (by assumption) (by omega) (by omega))
        | (with_reducible exact keep_set2 (by assumption) (by omega) (by omega))
        | (with_reducible exact keep_set1 (by assumption) (by omega) (by omega))
        | (with_reducible exact keep_of (by assumption) (by omega))
        | (with_reducible exact keep_dr (by assumption) (by omega))
        | (with_reducible exact keep_start)
        | (exact fun _ _ _ => rfl))
      (first
        | (go_at_call 93; (with_reducible refine Calls.mono (Mul_c (ha1.below Q0) (ha2.below Q0) (by omega) (by omega)) ?_); rintro e w1 ⟨n5, A5, l5, c5, rfl, k1, r1⟩; have Q1 := bthen Q0 k1; have B1 := Bx.step ((Bx.refl (n := w.heap.size + 3) (((w.alloc (Obj.cells #[Value.bool n1, .slice A1 l1 c1, .bool m1, .slice D1 e1 g1] 107)).alloc (Obj.cells #[Value.bool n2, .slice A2 l2 c2, .bool m2, .slice D2 e2 g2] 107)).alloc (Obj.cells #[Value.bool false, .slice none 0 0, .bool false, .slice none 0 0] 107)) (by simp)).dr) k1; have j1 := B1.cell; have f1 := B1.frozen; have s1 := B1.s)
        | (go_at_call 93; (with_reducible refine Calls.mono (Mul_c (hb1.below Q1) (hb2.below Q1) (by omega) (by omega)) ?_); rintro e w2 ⟨n6, A6, l6, c6, rfl, k2, r2⟩; have Q2 := bthen Q1 k2; have B2 := Bx.step B1 k2; have j2 := B2.cell; have f2 := B2.frozen; have s2 := B2.s))
  go_wp2
  refine bodyPost_ret (v := .agg #[.bool n5, .slice A5 l5 c5, .bool n6, .slice A6 l6 c6]) ?_ rfl ?_
  · simp [results, Tryz.results167, go_sem, *]
  · refine ⟨n5, A5, l5, c5, n6, A6, l6, c6, rfl, b4set Q2 (by omega), _, _, _, _, a1 * a2, b1 * b2, rfl, ((r1.below k2).z.set4 ?_).mono (fun k _ hk => by simp [fresh] at *; omega) (by omega), (r2.z.set4 ?_).mono (fun k _ hk => by simp [fresh] at *; omega) (by omega), Int.mul_pos hp1 hp2, ?_⟩
    · (first | omega | (simp; done) | (simp; omega) | (simp [fresh]; done) | (simp [fresh]; omega))
    · (first | omega | (simp; done) | (simp; omega) | (simp [fresh]; done) | (simp [fresh]; omega))
    · rw [HQ1.out, HQ2.out]; exact rat_mul hp1 hp2
set_option maxRecDepth 100000 in
set_option maxHeartbeats 2000000 in
theorem pdiv_c {ok1 ok2 w va vb p q A B} (h1 : isP ok1 w va p A) (h2 : isP ok2 w vb q B) (hA : A ≤ 400000000) (hB : B ≤ 400000000) (hA0 : 0 < A) (hne : q ≠ 0) : Calls Tryz.prog 168 #[va, vb] w (RetP w (fresh w) (p / q) (A + B)) := by
  obtain ⟨n1, A1, l1, c1, m1, D1, e1, g1, rfl⟩ := h1.shape
  obtain ⟨n2, A2, l2, c2, m2, D2, e2, g2, rfl⟩ := h2.shape
  obtain ⟨a1, b1, ha1, hb1, hp1, hq1⟩ := h1.parts
  obtain ⟨a2, b2, ha2, hb2, hp2, hq2⟩ := h2.parts
  have HQ1 := Lib.hid hq1
  have HQ2 := Lib.hid hq2
  clear hq1 hq2 h1 h2
  obtain ⟨z0, z1, z2, z3, z4⟩ := z3 w.heap.size
  have Q0 := bdr (bal (o := (Obj.cells #[Value.bool false, .slice none 0 0, .bool false, .slice none 0 0] 107)) (bal (o := (Obj.cells #[Value.bool n2, .slice A2 l2 c2, .bool m2, .slice D2 e2 g2] 107)) (bal (o := (Obj.cells #[Value.bool n1, .slice A1 l1 c1, .bool m1, .slice D1 e1 g1] 107)) (b0 w))))
  go_enter Tryz.func168, Tryz.ntmps168
  go_wp2
  go_region_held3 (fun w' => ∀ b o, b < w.heap.size + 1 + 1 → w'.cell? ⟨b, o, none⟩ = (((w.alloc (Obj.cells #[Value.bool n1, .slice A1 l1 c1, .bool m1, .slice D1 e1 g1] 107)).alloc (Obj.cells #[Value.bool n2, .slice A2 l2 c2, .bool m2, .slice D2 e2 g2] 107)).alloc (Obj.cells #[Value.bool false, .slice none 0 0, .bool false, .slice none 0 0] 107)).cell? ⟨b, o, none⟩)
      (first
        | (with_reducible assumption)
        | (with_reducible exact keep_set4 (by assumption) (by omega) (by omega))
        | (with_reducible exact keep_set2 (by assumption) (by omega) (by omega))
        | (with_reducible exact keep_set1 (by assumption) (by omega) (by omega))
        | (with_reducible exact keep_of (by assumption) (by omega))
        | (with_reducible exact keep_dr (by assumption) (by omega))
        | (with_reducible exact keep_start)
        | (exact fun _ _ _ => rfl))
      (first
        | (go_at_call 93; (with_reducible refine Calls.mono (Mul_c (ha1.below Q0) (hb2.below Q0) (by omega) (by omega)) ?_); rintro e w1 ⟨n5, A5, l5, c5, rfl, k1, r1⟩; have Q1 := bthen Q0 k1; have B1 := Bx.step ((Bx.refl (n := w.heap.size + 3) (((w.alloc (Obj.cells #[Value.bool n1, .slice A1 l1 c1, .bool m1, .slice D1 e1 g1] 107)).alloc (Obj.cells #[Value.bool n2, .slice A2 l2 c2, .bool m2, .slice D2 e2 g2] 107)).alloc (Obj.cells #[Value.bool false, .slice none 0 0, .bool false, .slice none 0 0] 107)) (by simp)).dr) k1; have j1 := B1.cell; have f1 := B1.frozen; have s1 := B1.s)
        | (go_at_call 93; (with_reducible refine Calls.mono (Mul_c (hb1.below Q1) (ha2.below Q1) (by omega) (by omega)) ?_); rintro e w2 ⟨n6, A6, l6, c6, rfl, k2, r2⟩; have Q2 := bthen Q1 k2; have B2 := Bx.step B1 k2; have j2 := B2.cell; have f2 := B2.frozen; have s2 := B2.s)
        | (go_at_call 91; (with_reducible refine Calls.mono (of_c (q := qv (a1 * b2) (b1 * a2)) (B := A + B) (ok := fun k => w.heap.size + 3 ≤ k) (isQ.mk ((r1.below k2).z.mono (fun k _ hk => by simp [fresh] at *; omega) (Nat.le_refl _)) (r2.z.mono (fun k _ hk => by simp [fresh] at *; omega) (Nat.le_refl _))) (by omega) (by omega)) ?_); rintro e w3 ⟨n7, A7, l7, c7, m7, D7, e7, g7, rfl, k3, r3⟩; have Q3 := bthen Q2 k3; have B3 := Bx.step B2 k3; have j3 := B3.cell; have f3 := B3.frozen; have s3 := B3.s))
  go_wp2
  refine bodyPost_ret (v := .agg #[.bool n7, .slice A7 l7 c7, .bool m7, .slice D7 e7 g7]) ?_ rfl ?_
  · simp [results, Tryz.results168, go_sem, *]
  · refine ⟨n7, A7, l7, c7, m7, D7, e7, g7, rfl, b4set Q3 (by omega), ?_⟩
    have r3' := (r3.set4 (b := w.heap.size + 1 + 1) (x := .bool n7) (y := .slice A7 l7 c7) (s := .bool m7) (u := .slice D7 e7 g7) (by (first | omega | (simp; done) | (simp; omega) | (simp [fresh]; done) | (simp [fresh]; omega)))).mono (ok' := fresh w) (fun k _ hk => by simp [fresh] at *; omega) (Nat.le_refl _)
    rw [HQ1.out, HQ2.out, rat_div hp1 hp2 (by rw [← HQ2.out]; exact hne)]
    exact r3'
end Go.Proofs.YtdkfdamihnieiaaGreat
end
