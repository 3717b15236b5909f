/- Package right: In. -/
import Derived.Test.YtdkfdamihnieiaaGreatG16
set_option linter.unusedSimpArgs false
set_option linter.unusedVariables false
section
open Go Go.RowKit Go.Shelf
namespace Go.Proofs.YtdkfdamihnieiaaGreat
open Go.Proofs
attribute [local go_sem] Oper.semAt_some wide_fn wide_depth
theorem qB_int {z : Int} (h1 : -9223372036854775808 ≤ z) (h2 : z ≤ 9223372036854775807) : qB (z : Rat) 2 := by
  have : pw 2 = 18446744073709551616 := by decide
  refine ⟨?_, ?_⟩
  · rw [Rat.num_intCast, this]; omega
  · rw [Rat.den_intCast, this]; omega
/-- A right. -/
structure Rt where
  f : Int
  t : Int
  q : Int
def Rt.cs (r : Rt) : List Value := [.int .i64 r.f, .int .i64 r.t, .int .i64 r.q]
def Rt.zero : Rt := ⟨0, 0, 0⟩
def rcs (l : List Rt) : List Value := l.flatMap Rt.cs
theorem rcs_length (l : List Rt) : (rcs l).length = l.length * 3 := by
  induction l with
  | nil => rfl
  | cons x r ih => simp only [rcs, List.flatMap_cons, List.length_append, List.length_cons] at *; rw [ih]; simp [Rt.cs]; omega
theorem rcs_get : ∀ (l : List Rt) (j i : Nat), j < l.length → i < 3 → (rcs l)[j * 3 + i]? = ((l.getD j Rt.zero).cs)[i]? := by
  intro l
  induction l with
  | nil => intro j i h; simp at h
  | cons x r ih =>
    intro j i h hi
    cases j with
    | zero =>
      simp only [rcs, List.flatMap_cons, Nat.zero_mul, Nat.zero_add, List.getD_cons_zero]
      rw [List.getElem?_append_left (by simp [Rt.cs]; omega)]
    | succ j =>
      have := ih j i (by simpa using h) hi
      simp only [rcs, List.flatMap_cons, List.getD_cons_succ] at *
      rw [List.getElem?_append_right (by simp [Rt.cs]; omega), ← this]
      congr 1
      simp [Rt.cs]; omega
def Vr (w : World) (v : Value) (rs : List Rt) : Prop := Sl w v rs.length (rcs rs)
theorem Vr.below {w w' v rs} (h : Vr w v rs) (hb : Below w.heap.size w w') : Vr w' v rs := Sl.below h hb
theorem Vr.shape {w v rs} (h : Vr w v rs) : ∃ A l c, v = .slice A l c := by obtain ⟨A, c, e⟩ := Sl.shape h; exact ⟨A, _, c, e⟩
theorem Vr.len {w A l c rs} (h : Vr w (.slice A l c) rs) : l = rs.length := Sl.len h
theorem Vr.at {w A l c rs} (h : Vr w (.slice A l c) rs) (h0 : 0 < rs.length) : ∃ b o, A = some ⟨b, o, none⟩ ∧ ∀ j, j < rs.length → w.cell? ⟨b, o + j * 3, none⟩ = some (.int .i64 (rs.getD j Rt.zero).f) ∧ w.cell? ⟨b, o + j * 3 + 1, none⟩ = some (.int .i64 (rs.getD j Rt.zero).t) ∧ w.cell? ⟨b, o + j * 3 + 2, none⟩ = some (.int .i64 (rs.getD j Rt.zero).q) := by
  obtain ⟨A', c', e, h1, h2, h3⟩ := h
  injection e with e1 e2 e3; subst e1
  obtain ⟨b, o, hA, hc⟩ := h3 h0
  refine ⟨b, o, hA, fun j hj => ?_⟩
  have g := fun i (hi : i < 3) => (hc (j * 3 + i) (by rw [rcs_length]; omega)).trans (rcs_get rs j i hj hi)
  exact ⟨g 0 (by omega), g 1 (by omega), g 2 (by omega)⟩
theorem Vr.lim {w v rs} (h : Vr w v rs) : rs.length ≤ 9223372036854775807 := by have := Sl.lim h; unfold maxLen at this; omega
theorem Ends.two (W : World) {f t : Int} {p q : Rat} {n1 m1 n5 m5 : Bool} {A1 D1 A5 D5 : Option Addr} {l1 c1 e1 g1 l5 c5 e5 g5 : Nat} {T : TypeId} (hp : cq W (.agg #[.bool n1, .slice A1 l1 c1, .bool m1, .slice D1 e1 g1]) p) (hq : cq W (.agg #[.bool n5, .slice A5 l5 c5, .bool m5, .slice D5 e5 g5]) q) :
    Ends (W.alloc (.cells #[.int .i64 f, .bool n1, .slice A1 l1 c1, .bool m1, .slice D1 e1 g1, .int .i64 t, .bool n5, .slice A5 l5 c5, .bool m5, .slice D5 e5 g5] T)) W.heap.size 2 (fun i => if i = 0 then f else t) (fun i => if i = 0 then ⟨n1, .slice A1 l1 c1, m1, .slice D1 e1 g1⟩ else ⟨n5, .slice A5 l5 c5, m5, .slice D5 e5 g5⟩) (fun i => if i = 0 then p else q) := by
  refine ⟨fun i hi => ?_, fun i hi => ?_⟩
  · obtain rfl | rfl : i = 0 ∨ i = 1 := by omega
    · simp only [World.cell?_alloc_new]; simp
    · simp only [World.cell?_alloc_new]; simp
  · obtain rfl | rfl : i = 0 ∨ i = 1 := by omega
    · exact cq_stable.below hp (bal (b0 W))
    · exact cq_stable.below hq (bal (b0 W))
theorem putq_qB {qs : List Rat} {B C : Nat} {z : Int} {r : Rat} (h : ∀ j, qB (qs.getD j 0) B) (hr : qB r C) : ∀ j, qB ((putq qs z r).getD j 0) (B + C + 1) := by
  intro j
  unfold putq
  split
  · rw [getD_set]
    split
    · rename_i h2
      exact qB_add (h _) hr
    · exact (h j).mono (by omega)
  · exact (h j).mono (by omega)
/-- What rights put in. -/
def put2 (qs : List Rat) (x : Rt) : List Rat := putq (putq qs x.f (x.q : Rat)) x.t (-(x.q : Rat))
def inL (n : Nat) (rs : List Rt) : List Rat := rs.foldl put2 (List.replicate n 0)
theorem put2_length (qs : List Rat) (x : Rt) : (put2 qs x).length = qs.length := by unfold put2; rw [putq_length, putq_length]
theorem inL_length (n : Nat) (rs : List Rt) : (inL n rs).length = n := by
  unfold inL
  suffices ∀ qs : List Rat, (rs.foldl put2 qs).length = qs.length by rw [this]; simp
  induction rs with
  | nil => intro qs; rfl
  | cons x r ih => intro qs; rw [List.foldl_cons, ih, put2_length]
def rt64 (rs : List Rt) : Prop := ∀ x ∈ rs, -9223372036854775808 < x.q ∧ x.q ≤ 9223372036854775807
theorem put2_qB {qs : List Rat} {B : Nat} {x : Rt} (h : ∀ j, qB (qs.getD j 0) B) (h1 : -9223372036854775808 ≤ x.q) (h2 : x.q ≤ 9223372036854775807) : ∀ j, qB ((put2 qs x).getD j 0) (B + 6) := fun j => (putq_qB (putq_qB h (qB_int h1 h2)) (qB_neg (qB_int h1 h2)) j).mono (by omega)
theorem inL_qB (n : Nat) (rs : List Rt) (h : ∀ x ∈ rs, -9223372036854775808 ≤ x.q ∧ x.q ≤ 9223372036854775807) : ∀ j, qB ((inL n rs).getD j 0) (rs.length * 6 + 1) := by
  unfold inL
  suffices ∀ (qs : List Rat) (B : Nat), (∀ j, qB (qs.getD j 0) B) → ∀ j, qB ((rs.foldl put2 qs).getD j 0) (B + rs.length * 6) by
    intro j
    refine (this (List.replicate n 0) 1 (fun j => ?_) j).mono (by omega)
    rw [List.getD_eq_getElem?_getD, List.getElem?_replicate]
    split <;> exact qB_zero (by omega)
  induction rs with
  | nil => intro qs B h j; simpa using h j
  | cons x r ih =>
    intro qs B hq j
    have hx := h x (by simp)
    refine (ih (fun y hy => h y (by simp [hy])) (put2 qs x) (B + 6) (put2_qB hq hx.1 hx.2) j).mono (by simp; omega)
theorem inL_take {n : Nat} {rs : List Rt} {k : Nat} (hk : k < rs.length) : inL n (rs.take (k + 1)) = put2 (inL n (rs.take k)) (rs.getD k Rt.zero) := by
  unfold inL
  rw [List.take_succ_eq_append_getElem hk, List.foldl_append, List.getD_eq_getElem?_getD, List.getElem?_eq_getElem hk]; rfl
set_option maxRecDepth 100000 in
set_option maxHeartbeats 4000000 in
theorem in_c {n0 : Nat} {w : World} {v : Value} {rs : List Rt} (h : Vr w v rs) (n : Nat) (hn : n ≤ 6) (hr : ∀ x ∈ rs, -9223372036854775808 ≤ x.q ∧ x.q ≤ 9223372036854775807) (hl : rs.length ≤ 10000000) :
    Calls Tryz.prog 73 #[v, .int .i64 (n : Int)] w (RetV w n0 (inL n rs)) := by
  obtain ⟨A, l, c, rfl⟩ := h.shape
  obtain rfl := h.len
  obtain ⟨W1, mk, H0, hlt1⟩ := make_R w n (by omega)
  have HR := Lib.hid hr
  clear hr
  refine (callsIn_wide (n := 10)).1 ?_
  refine callsIn_of_wp Tryz.func73 rfl trivial ?_ rfl
  simp only [Tryz.ntmps73, List.size_toArray, List.length_cons, List.length_nil, Nat.reduceAdd, Nat.reduceSub, Array.replicate_succ, Array.replicate_zero, List.push_toArray, List.append_toArray, List.nil_append, List.cons_append]
  gi_wp2
  clear mk
  gi_loopw [15] (fun iv wr => ∃ (k : Nat) (l' : List Qx), k ≤ rs.length ∧ iv = .int .i64 (k : Int) ∧ Hid (MadeR w wr w.heap.size (inL n (rs.take k)) l')) (fun iv _ => rs.length - (intOf iv).toNat)
  case atStart => exact ⟨0, _, by omega, rfl, H0⟩
  case round =>
    obtain ⟨k, l', hk, rfl, HM⟩ := hrel
    clear H0
    by_cases hlt : k < rs.length
    · obtain ⟨br, or, rfl, hc⟩ := (h.below HM.out.below).at (by omega)
      obtain ⟨d0, d1, d2⟩ := hc k hlt
      obtain ⟨x, hx⟩ : ∃ x, x = rs.getD k Rt.zero := ⟨_, rfl⟩
      obtain ⟨h1, h2⟩ := HR.out (rs.getD k Rt.zero) (by rw [List.getD_eq_getElem?_getD, List.getElem?_eq_getElem hlt]; exact List.getElem_mem hlt)
      rw [← hx] at d0 d1 d2 h1 h2
      have HX := Lib.hid hx
      have htk := inL_take (n := n) hlt
      rw [← hx] at htk
      have HT := Lib.hid htk
      have hqb := inL_qB n (rs.take k) (fun y hy => HR.out y (List.mem_of_mem_take hy))
      rw [List.length_take, Nat.min_eq_left hk] at hqb
      have hql : (inL n (rs.take k)).length = n := inL_length _ _
      obtain ⟨qs, hqs⟩ : ∃ qs, qs = inL n (rs.take k) := ⟨_, rfl⟩
      rw [← hqs] at HM hqb hql HT
      have HQB := Lib.hid hqb
      have HQL := Lib.hid hql
      clear hx hc htk hqs hqb hql
      obtain ⟨wo, rfl⟩ : ∃ wo : World, wo = wr := ⟨_, rfl⟩
      have hXc := Blk.new wo [.int .i64 x.f, .int .i64 x.t, .int .i64 x.q] 92 rfl
      have HXC := Lib.hid hXc
      clear hXc
      have hsw := HM.out.blk.lt
      have F := Lib.hid (fun W => @fromInt_q W x.q h1 h2)
      gi_wp2_with (gi_at_call 49; (with_reducible refine CallsIn.mono (callsIn_wide.2 (F.out _)) ?_); rintro e w2 ⟨n1, A1, l1, c1, m1, D1, e1, g1, rfl, hb2, hr2⟩; have HX2 := Lib.hid (HXC.out.below hb2); have HQ2 := Lib.hid (show cq w2 (.agg #[.bool n1, .slice A1 l1 c1, .bool m1, .slice D1 e1 g1]) (x.q : Rat) from hr2.any); have HM2 := Lib.hid (HM.out.later (bthen (bal (b0 wo)) hb2)); have hs2 := hb2.size; simp at hs2)
      refine wpIn_region_Y (by kernel_rfl) (by kernel_rfl) 11 1 rfl (by kernel_rfl) (fun u => { tmps := #[.slice (some ⟨br, or, none⟩) rs.length c, .int .i64 (n : Int), undef, undef, .slice none 0 0, .slice (some ⟨w.heap.size, 0, none⟩) n n, undef, .pointer (some ⟨wo.heap.size, 0, none⟩), .pointer (some ⟨w2.heap.size, 0, none⟩), .int .i64 (n : Int), .int .i64 (n : Int), .int .i64 (n : Int), .slice (some ⟨w.heap.size, 0, none⟩) n n, .slice (some ⟨br, or, none⟩) rs.length c, .int .i64 (rs.length : Int), .int .i64 (k : Int), .bool true, .pointer (some ⟨br, or + k * 3, none⟩), .agg #[.int .i64 x.f, .int .i64 x.t, .int .i64 x.q], .pointer (some ⟨wo.heap.size, 2, none⟩), .int .i64 x.q, (.agg #[.bool n1, .slice A1 l1 c1, .bool m1, .slice D1 e1 g1]), u 0, u 1, u 2, u 3, u 4, u 5, u 6, u 7, u 8, u 9, u 10, u 11, u34, undef], defers := [] }) (fun k => #[u22, u23, u24, u25, u26, u27, u28, u29, u30, u31, u32, u33].getD k undef) rfl (fun W1 W2 => Below W1.heap.size W1 W2) (fun _ => Below.refl _ _) (fun h1 h2 => bthen h1 h2)
        (fun j9 v W1 => match j9 with
          | 0 => v = .slice (some ⟨w.heap.size, 0, none⟩) n n
          | 1 => v = .pointer (some ⟨wo.heap.size, 0, none⟩)
          | 2 => v = .int .i64 x.f
          | 3 => v = (.agg #[.bool n1, .slice A1 l1 c1, .bool m1, .slice D1 e1 g1])
          | 4 => v = .agg #[.int .i64 x.f, .bool n1, .slice A1 l1 c1, .bool m1, .slice D1 e1 g1]
          | 5 => v = .pointer (some ⟨wo.heap.size, 1, none⟩)
          | 6 => v = .int .i64 x.t
          | 7 => v = (.agg #[.bool n1, .slice A1 l1 c1, .bool m1, .slice D1 e1 g1])
          | 8 => ∃ p : Qx, v = p.v ∧ isQc (fun _ => True) W1 p.v (-(x.q : Rat))
          | 9 => ∃ p : Qx, v = .agg #[.int .i64 x.t, .bool p.n, p.s, .bool p.m, p.t] ∧ isQc (fun _ => True) W1 p.v (-(x.q : Rat))
          | 10 => ∃ (eb : Nat) (y : Nat → Qx), w.heap.size < eb ∧ v = .slice (some ⟨eb, 0, none⟩) 2 2 ∧ Ends W1 eb 2 (fun i => if i = 0 then x.f else x.t) y (fun i => if i = 0 then (x.q : Rat) else -(x.q : Rat))
          | _ => True) ?hY ?step ?fin
      case hY =>
        intro k v W1 W2 h hb
        match k, h with
        | 0, h => exact h
        | 1, h => exact h
        | 2, h => exact h
        | 3, h => exact h
        | 4, h => exact h
        | 5, h => exact h
        | 6, h => exact h
        | 7, h => exact h
        | 8, ⟨p, e, h⟩ => exact ⟨p, e, isQc.below h hb⟩
        | 9, ⟨p, e, h⟩ => exact ⟨p, e, isQc.below h hb⟩
        | 10, ⟨eb, y, e1, e2, h⟩ => exact ⟨eb, y, e1, e2, h.below hb⟩
        | k + 11, h => trivial
      case step =>
        intro u W' j o hj ho hR hpre
        have hbw : Below (w2.alloc (Obj.cells #[Value.bool n1, .slice A1 l1 c1, .bool m1, .slice D1 e1 g1] 44)).heap.size (w2.alloc (Obj.cells #[Value.bool n1, .slice A1 l1 c1, .bool m1, .slice D1 e1 g1] 44)) W' := bthen (bdr (b0 (w2.alloc (Obj.cells #[Value.bool n1, .slice A1 l1 c1, .bool m1, .slice D1 e1 g1] 44)))) hR
        have hbo : Below w2.heap.size w2 W' := (bal (b0 w2)).trans (hbw.mono (by simp))
        have hz := (Blk.new4 (W := w2) (T := 44) (x := .bool n1) (y := .slice A1 l1 c1) (z := .bool m1) (u := .slice D1 e1 g1) rfl).below hbw
        obtain ⟨z0, z1, z2, z3⟩ := four1 hz
        have hx := HX2.out.below hbo
        have x0 := hx.cell 0
        have x1 := hx.cell 1
        have x2 := hx.cell 2
        simp only [List.getElem?_cons_zero, List.getElem?_cons_succ] at x0 x1 x2
        have hq := cq_stable.below HQ2.out hbo
        have hszw := hbo.size
        obtain rfl | rfl | rfl | rfl | rfl | rfl | rfl | rfl | rfl | rfl | rfl : j = 0 ∨ j = 1 ∨ j = 2 ∨ j = 3 ∨ j = 4 ∨ j = 5 ∨ j = 6 ∨ j = 7 ∨ j = 8 ∨ j = 9 ∨ j = 10 := by omega
        · simp at ho
          subst ho
          simp [Region.binds] at hpre
          refine wpOpIn_step rfl (fun K' hK => ?_)
          simp only [Region.wanted]
          have HK := Lib.hid hK
          clear hK
          gi_wp2
          exact HK.out _ _ ⟨.slice (some ⟨w.heap.size, 0, none⟩) n n, by simp [upd, undef, *], Below.refl _ _, rfl⟩
        · simp at ho
          subst ho
          simp [Region.binds] at hpre
          refine wpOpIn_step rfl (fun K' hK => ?_)
          simp only [Region.wanted]
          have HK := Lib.hid hK
          clear hK
          gi_wp2
          exact HK.out _ _ ⟨.pointer (some ⟨wo.heap.size, 0, none⟩), by simp [upd, undef, *], Below.refl _ _, rfl⟩
        · simp at ho
          subst ho
          simp [Region.binds] at hpre
          refine wpOpIn_step rfl (fun K' hK => ?_)
          simp only [Region.wanted]
          have HK := Lib.hid hK
          clear hK
          gi_wp2
          exact HK.out _ _ ⟨.int .i64 x.f, by simp [upd, undef, *], Below.refl _ _, rfl⟩
        · simp at ho
          subst ho
          simp [Region.binds] at hpre
          refine wpOpIn_step rfl (fun K' hK => ?_)
          simp only [Region.wanted]
          have HK := Lib.hid hK
          clear hK
          gi_wp2
          exact HK.out _ _ ⟨(.agg #[.bool n1, .slice A1 l1 c1, .bool m1, .slice D1 e1 g1]), by simp [upd, undef, *], Below.refl _ _, rfl⟩
        · simp at ho
          subst ho
          simp [Region.binds] at hpre
          refine wpOpIn_step rfl (fun K' hK => ?_)
          simp only [Region.wanted]
          have HK := Lib.hid hK
          clear hK
          gi_wp2
          exact HK.out _ _ ⟨.agg #[.int .i64 x.f, .bool n1, .slice A1 l1 c1, .bool m1, .slice D1 e1 g1], by simp [upd, undef, *], Below.refl _ _, rfl⟩
        · simp at ho
          subst ho
          simp [Region.binds] at hpre
          refine wpOpIn_step rfl (fun K' hK => ?_)
          simp only [Region.wanted]
          have HK := Lib.hid hK
          clear hK
          gi_wp2
          exact HK.out _ _ ⟨.pointer (some ⟨wo.heap.size, 1, none⟩), by simp [upd, undef, *], Below.refl _ _, rfl⟩
        · simp at ho
          subst ho
          simp [Region.binds] at hpre
          refine wpOpIn_step rfl (fun K' hK => ?_)
          simp only [Region.wanted]
          have HK := Lib.hid hK
          clear hK
          gi_wp2
          exact HK.out _ _ ⟨.int .i64 x.t, by simp [upd, undef, *], Below.refl _ _, rfl⟩
        · simp at ho
          subst ho
          simp [Region.binds] at hpre
          refine wpOpIn_step rfl (fun K' hK => ?_)
          simp only [Region.wanted]
          have HK := Lib.hid hK
          clear hK
          gi_wp2
          exact HK.out _ _ ⟨(.agg #[.bool n1, .slice A1 l1 c1, .bool m1, .slice D1 e1 g1]), by simp [upd, undef, *], Below.refl _ _, rfl⟩
        · simp at ho
          subst ho
          simp [Region.binds] at hpre
          have HF := Lib.hid (neg_q (hq.q (qB_int h1 h2)) (by omega) (by omega))
          refine wpOpIn_step rfl (fun K' hK => ?_)
          simp only [Region.wanted]
          have HK := Lib.hid hK
          clear hK
          gi_wp2_with (gi_at_call 67; (with_reducible refine CallsIn.mono (callsIn_wide.2 HF.out) ?_); rintro e w1 ⟨n4, A4, l4, c4, m4, D4, e4, g4, rfl, hb1, hr1⟩)
          refine HK.out _ _ ⟨(.agg #[.bool n4, .slice A4 l4 c4, .bool m4, .slice D4 e4 g4]), by simp [upd, undef, *], hb1, ⟨n4, .slice A4 l4 c4, m4, .slice D4 e4 g4⟩, rfl, hr1.any⟩
        · simp at ho
          subst ho
          simp [Region.binds] at hpre
          obtain ⟨e1', p, e2', hp⟩ : (u 6 = .int .i64 x.t ∧ ∃ p : Qx, u 8 = p.v ∧ isQc (fun _ => True) W' p.v (-(x.q : Rat))) := hpre
          obtain ⟨n5, ⟨A5, l5, c5⟩, m5, ⟨D5, e5, g5⟩, rfl⟩ := Qx.shape (isQc.slices hp)
          simp only [Qx.v] at e2' hp
          refine wpOpIn_step rfl (fun K' hK => ?_)
          simp only [Region.wanted]
          have HK := Lib.hid hK
          clear hK
          gi_wp2
          refine HK.out _ _ ⟨.agg #[.int .i64 x.t, .bool n5, .slice A5 l5 c5, .bool m5, .slice D5 e5 g5], by simp [upd, undef, *], Below.refl _ _, ⟨n5, .slice A5 l5 c5, m5, .slice D5 e5 g5⟩, rfl, hp⟩
        · simp at ho
          subst ho
          simp [Region.binds] at hpre
          obtain ⟨e1', p, e2', hp⟩ : (u 4 = .agg #[.int .i64 x.f, .bool n1, .slice A1 l1 c1, .bool m1, .slice D1 e1 g1] ∧ ∃ p : Qx, u 9 = .agg #[.int .i64 x.t, .bool p.n, p.s, .bool p.m, p.t] ∧ isQc (fun _ => True) W' p.v (-(x.q : Rat))) := hpre
          obtain ⟨n5, ⟨A5, l5, c5⟩, m5, ⟨D5, e5, g5⟩, rfl⟩ := Qx.shape (isQc.slices hp)
          simp only [Qx.v] at e2' hp
          refine wpOpIn_step rfl (fun K' hK => ?_)
          simp only [Region.wanted]
          have HK := Lib.hid hK
          clear hK
          gi_wp2
          refine HK.out _ _ ⟨.slice (some ⟨W'.heap.size, 0, none⟩) 2 2, by simp [upd, undef, *], bal (b0 _), W'.heap.size, (fun i => if i = 0 then ⟨n1, .slice A1 l1 c1, m1, .slice D1 e1 g1⟩ else ⟨n5, .slice A5 l5 c5, m5, .slice D5 e5 g5⟩), by omega, rfl, Ends.two W' hq hp⟩
      case fin =>
        intro u W' hR hY
        have hbw : Below (w2.alloc (Obj.cells #[Value.bool n1, .slice A1 l1 c1, .bool m1, .slice D1 e1 g1] 44)).heap.size (w2.alloc (Obj.cells #[Value.bool n1, .slice A1 l1 c1, .bool m1, .slice D1 e1 g1] 44)) W' := bthen (bdr (b0 (w2.alloc (Obj.cells #[Value.bool n1, .slice A1 l1 c1, .bool m1, .slice D1 e1 g1] 44)))) hR
        have hbo : Below w2.heap.size w2 W' := (bal (b0 w2)).trans (hbw.mono (by simp))
        have g0 : u 0 = .slice (some ⟨w.heap.size, 0, none⟩) n n := hY 0 (by omega)
        obtain ⟨eb, y, hes, g10, hE⟩ := hY 10 (by omega)
        have hM3 := HM2.out.later hbo
        have HP := rput_c (B := rs.length * 6 + 10) hM3 hE (by omega) (by omega) (by rw [HQL.out]; omega) (by omega) (by omega) (fun i => by
          by_cases hi : i = 0
          · simp only [hi, if_true]; exact (qB_int h1 h2).mono (by omega)
          · simp only [hi, if_false]; exact (qB_neg (qB_int h1 h2)).mono (by omega)) (fun i j hi => by
          obtain rfl | rfl | rfl : i = 0 ∨ i = 1 ∨ i = 2 := by omega
          · exact (HQB.out j).mono (by omega)
          · exact (putq_qB HQB.out (qB_int h1 h2) j).mono (by omega)
          · exact (putq_qB (putq_qB HQB.out (qB_int h1 h2)) (qB_neg (qB_int h1 h2)) j).mono (by omega))
        rw [HQL.out] at HP
        have HPP := Lib.hid HP
        clear HP hM3 hE hY hR
        refine wpTail_step (i' := 12) (c := 0) rfl ?_
        rw [g0, g10]
        refine wpOpIn_step rfl (fun K' hK => ?_)
        simp only [Region.wanted, List.getElem_toArray, List.getElem_cons_succ, List.getElem_cons_zero]
        have HK := Lib.hid hK
        clear hK
        gi_wp2_with (gi_at_call 141; (with_reducible refine CallsIn.mono (callsIn_wide.2 HPP.out) ?_); rintro e w3 ⟨⟨v, rfl⟩, hs3, l3', hM3⟩; have HM3 := Lib.hid hM3; clear hM3)
        refine HK.out _ _ (wpTail_end ?_)
        clear HK
        gi_wp2
        go_roundw
        case rel =>
          refine ⟨k + 1, l3', by omega, val_int (by omega), Lib.hid ?_⟩
          rw [HT.out]
          exact HM3.out
        case measure => simp [intOf]; omega
    · obtain rfl : k = rs.length := by omega
      rw [List.take_length] at HM
      gi_wp2
      go_ret
      exact HM.out.ret (by rw [inL_length]) (by rw [inL_length]; omega) (by unfold maxLen; omega)
end Go.Proofs.YtdkfdamihnieiaaGreat
end
