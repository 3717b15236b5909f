/- Contracts of package node, part 1: at, with any place. -/
import Derived.Test.YtdkfdamihnieiaaGreatG34
set_option linter.unusedSimpArgs false
set_option linter.unusedVariables false
section
open Go Go.RowKit Go.Shelf
namespace Go.Proofs.YtdkfdamihnieiaaGreat
open Go.Proofs
/-- The element at a place; 0 outside. -/
def atI (qs : List Rat) (i : Int) : Rat := if i < 0 then 0 else qs.getD i.toNat 0
theorem atI_nat (qs : List Rat) (k : Nat) : atI qs (k : Int) = qs.getD k 0 := by unfold atI; rw [if_neg (by omega)]; rfl
set_option maxHeartbeats 1000000 in
theorem nat_c {n0 : Nat} {E : Elt} (hE : Ratl E) {w v qs} (h : Vq n0 E w v qs) (i : Int) : Calls Tryz.prog 180 #[v, .int .i64 i] w (RetE w E (atI qs i)) := by
  obtain ⟨A, l, c, rfl⟩ := h.shape
  have hl := h.len_eq
  have hm : l ≤ 9223372036854775807 := by have h1 := h.rv.cap; have h2 := h.rv.lim; unfold maxLen at h2; omega
  rcases Int.lt_or_le i 0 with hi | hi
  · rw [show atI qs i = 0 by unfold atI; rw [if_pos hi]]
    have hi2 : decide (i < 0) = true := by simpa using hi
    clear hl
    go_enter Tryz.func180, Tryz.ntmps180
    go_wp2
    refine bodyPost_ret (v := .agg #[.bool false, .slice none 0 0, .bool false, .slice none 0 0]) ?_ rfl ?_
    · simp [results, Tryz.results180, go_sem]
    · exact ⟨_, _, _, _, _, _, _, _, rfl, bal (b0 _), hE.zero _⟩
  · obtain ⟨k, rfl⟩ : ∃ k : Nat, i = (k : Int) := ⟨i.toNat, by omega⟩
    rw [atI_nat]
    have hi1 : ¬ (k : Int) < 0 := by omega
    have hi2 : decide ((k : Int) < 0) = false := by simp
    by_cases hlt : k < l
    · obtain ⟨b, o, n, s, m, t, rfl, hx, x0, x1, x2, x3⟩ := h.elem hlt
      obtain ⟨⟨A1, l1, c1, rfl⟩, A2, l2, c2, rfl⟩ := hE.slices hx
      have hb := World.block_lt_of_cell? w _ x0
      simp only at hb
      have hne : w.heap.size ≠ b := by omega
      have hge : ¬ (k : Int) ≥ (l : Int) := by omega
      have hge1 : ¬ l ≤ k := by omega
      have hge2 : decide (l ≤ k) = false := by simpa using hge1
      have hc := hl
      clear hl
      go_enter Tryz.func180, Tryz.ntmps180
      go_wp2
      refine bodyPost_ret (v := .agg #[.bool n, .slice A1 l1 c1, .bool m, .slice A2 l2 c2]) ?_ rfl ?_
      · simp [results, Tryz.results180, go_sem]
      · exact ⟨_, _, _, _, _, _, _, _, rfl, bal (b0 _), hE.below hx (bal (b0 _))⟩
    · rw [show qs.getD k 0 = 0 by rw [List.getD_eq_getElem?_getD, List.getElem?_eq_none (by omega)]; rfl]
      have hge : (k : Int) ≥ (l : Int) := by omega
      have hge1 : l ≤ k := by omega
      have hge2 : decide (l ≤ k) = true := by simpa using hge1
      clear hlt hl
      go_enter Tryz.func180, Tryz.ntmps180
      go_wp2
      refine bodyPost_ret (v := .agg #[.bool false, .slice none 0 0, .bool false, .slice none 0 0]) ?_ rfl ?_
      · simp [results, Tryz.results180, go_sem]
      · exact ⟨_, _, _, _, _, _, _, _, rfl, bal (b0 _), hE.zero _⟩
end Go.Proofs.YtdkfdamihnieiaaGreat
end
section
/- Contracts of package node, part 2: Split's inner function. -/
open Go Go.RowKit Go.Shelf
namespace Go.Proofs.YtdkfdamihnieiaaGreat
open Go.Proofs
attribute [local go_sem] Oper.semAt_some wide_fn wide_depth
set_option maxRecDepth 100000 in
set_option maxHeartbeats 4000000 in
theorem split1_c {n0 K K2 : Nat} {w : World} {pl pm pb : Nat} {vl vm : Value} {qs : List Rat} {F : List (List Rat)} {k b : Nat} (hl : Vq n0 (rq K) w vl qs) (hm : Vm n0 (rq K2) w vm F) (hk : k < F.length) (x1 : w.cell? ⟨pl, 0, none⟩ = some vl) (x2 : w.cell? ⟨pm, 0, none⟩ = some vm) (x3 : w.cell? ⟨pb, 0, none⟩ = some (.int .i64 (b : Int))) (hK0 : 0 < K) (hK : K ≤ 400000000) (hK20 : 0 < K2) (hK2 : K2 ≤ 400000000) :
    Calls Tryz.prog 182 #[.int .i64 (k : Int), .pointer (some ⟨pl, 0, none⟩), .pointer (some ⟨pm, 0, none⟩), .pointer (some ⟨pb, 0, none⟩)] w (RetQ w (fun _ => True) (atI qs k * atI (F.getD k []) b)) := by
  obtain ⟨A1, l1, c1, rfl⟩ := hl.shape
  obtain ⟨A2, c2, rfl, hm1, hm2, hmc⟩ := hm
  obtain ⟨bm, om, rfl, hrow⟩ := hmc (by omega)
  obtain ⟨rv, x4, hrv⟩ := hrow k hk
  obtain ⟨A3, l3, c3, rfl⟩ := hrv.shape
  have X1 := Lib.hid x1
  have X2 := Lib.hid x2
  have X3 := Lib.hid x3
  have X4 := Lib.hid x4
  have HL := Lib.hid hl
  have HR := Lib.hid hrv
  clear x1 x2 x3 x4 hl hrow hrv hmc
  refine (callsIn_wide (n := 10)).1 ?_
  refine callsIn_of_wp Tryz.func182 rfl trivial ?_ rfl
  simp only [Tryz.ntmps182, List.size_toArray, List.length_cons, List.length_nil, Nat.reduceAdd, Nat.reduceSub, Array.replicate_succ, Array.replicate_zero, List.push_toArray, List.append_toArray, List.nil_append, List.cons_append]
  gi_wp2
  refine wpIn_region_Y (by kernel_rfl) (by kernel_rfl) 10 1 rfl (by kernel_rfl) (fun u => { tmps := #[.int .i64 (k : Int), .pointer (some ⟨pl, 0, none⟩), .pointer (some ⟨pm, 0, none⟩), .pointer (some ⟨pb, 0, none⟩), undef, .pointer (some ⟨w.heap.size, 0, none⟩), u 0, u 1, u 2, u 3, u 4, u 5, u 6, u 7, u 8, u 9], defers := [] }) (fun _ => undef) rfl (fun W1 W2 => Below W1.heap.size W1 W2) (fun _ => Below.refl _ _) (fun h1 h2 => bthen h1 h2)
    (fun j9 v W1 => match j9 with
      | 0 => v = Value.slice A1 l1 c1
      | 1 => v = Value.int .i64 (k : Int)
      | 2 => ∃ p : Qx, v = p.v ∧ rq K W1 p.v (atI qs k)
      | 3 => v = Value.slice (some ⟨bm, om, none⟩) F.length c2
      | 4 => v = Value.int .i64 (k : Int)
      | 5 => v = Value.pointer (some ⟨bm, om + k, none⟩)
      | 6 => v = Value.slice A3 l3 c3
      | 7 => v = Value.int .i64 (b : Int)
      | 8 => ∃ p : Qx, v = p.v ∧ rq K2 W1 p.v (atI (F.getD k []) b)
      | 9 => ∃ p : Qx, v = p.v ∧ isQc (fun _ => True) W1 p.v (atI qs k * atI (F.getD k []) b)
      | _ => True) ?hY ?step ?fin
  case hY =>
    intro k v W1 W2 h hb
    match k, h with
    | 0, h => exact h
    | 1, h => exact h
    | 2, ⟨p, e, h⟩ => exact ⟨p, e, (rq_stable K).below h hb⟩
    | 3, h => exact h
    | 4, h => exact h
    | 5, h => exact h
    | 6, h => exact h
    | 7, h => exact h
    | 8, ⟨p, e, h⟩ => exact ⟨p, e, (rq_stable K2).below h hb⟩
    | 9, ⟨p, e, h⟩ => exact ⟨p, e, isQc.below h hb⟩
    | k + 10, h => trivial
  case step =>
    intro u W' j o hj ho hR hpre
    have hbw : Below (w.alloc (.cells #[.bool false, .slice none 0 0, .bool false, .slice none 0 0] 44)).heap.size (w.alloc (.cells #[.bool false, .slice none 0 0, .bool false, .slice none 0 0] 44)) W' := bthen (bdr (b0 (w.alloc (.cells #[.bool false, .slice none 0 0, .bool false, .slice none 0 0] 44)))) hR
    have hbo := bthen (bal (b0 w)) hbw
    have q1 := (hbo.cell (p := ⟨pl, 0, none⟩) (World.block_lt_of_cell? w _ X1.out)).trans X1.out
    have q2 := (hbo.cell (p := ⟨pm, 0, none⟩) (World.block_lt_of_cell? w _ X2.out)).trans X2.out
    have q3 := (hbo.cell (p := ⟨pb, 0, none⟩) (World.block_lt_of_cell? w _ X3.out)).trans X3.out
    have q4 := (hbo.cell (p := ⟨bm, om + k, none⟩) (World.block_lt_of_cell? w _ X4.out)).trans X4.out
    obtain rfl | rfl | rfl | rfl | rfl | rfl | rfl | rfl | rfl | rfl : j = 0 ∨ j = 1 ∨ j = 2 ∨ j = 3 ∨ j = 4 ∨ j = 5 ∨ j = 6 ∨ j = 7 ∨ j = 8 ∨ j = 9 := by omega
    · simp at ho
      subst ho
      simp [Region.binds] at hpre
      refine wpOpIn_step rfl (fun K' hK => ?_)
      simp only [Region.wanted]
      have HK := Lib.hid hK
      clear hK
      gi_wp2
      exact HK.out _ _ ⟨Value.slice A1 l1 c1, by simp [upd, undef, *], Below.refl _ _, rfl⟩
    · simp at ho
      subst ho
      simp [Region.binds] at hpre
      refine wpOpIn_step rfl (fun K' hK => ?_)
      simp only [Region.wanted]
      have HK := Lib.hid hK
      clear hK
      gi_wp2
      exact HK.out _ _ ⟨Value.int .i64 (k : Int), by simp [upd, undef, *], Below.refl _ _, rfl⟩
    · simp at ho
      subst ho
      simp [Region.binds] at hpre
      have HF := Lib.hid (nat_c (rq_ratl hK0) (HL.out.below (rq_stable K) hbo) (k : Int))
      refine wpOpIn_step rfl (fun K' hK => ?_)
      simp only [Region.wanted]
      have HK := Lib.hid hK
      clear hK
      gi_wp2_with (gi_at_call 180; (with_reducible refine CallsIn.mono (callsIn_wide.2 HF.out) ?_); rintro e w1 ⟨n7, A7, l7, c7, m7, D7, e7, g7, rfl, hb1, hr1⟩)
      refine HK.out _ _ ⟨(.agg #[.bool n7, .slice A7 l7 c7, .bool m7, .slice D7 e7 g7]), by simp [upd, undef, Qx.v, Qx.zero, *], hb1, ⟨⟨n7, .slice A7 l7 c7, m7, .slice D7 e7 g7⟩, rfl, hr1⟩⟩
    · simp at ho
      subst ho
      simp [Region.binds] at hpre
      refine wpOpIn_step rfl (fun K' hK => ?_)
      simp only [Region.wanted]
      have HK := Lib.hid hK
      clear hK
      gi_wp2
      exact HK.out _ _ ⟨Value.slice (some ⟨bm, om, none⟩) F.length c2, by simp [upd, undef, *], Below.refl _ _, rfl⟩
    · simp at ho
      subst ho
      simp [Region.binds] at hpre
      refine wpOpIn_step rfl (fun K' hK => ?_)
      simp only [Region.wanted]
      have HK := Lib.hid hK
      clear hK
      gi_wp2
      exact HK.out _ _ ⟨Value.int .i64 (k : Int), by simp [upd, undef, *], Below.refl _ _, rfl⟩
    · simp at ho
      subst ho
      simp [Region.binds] at hpre
      refine wpOpIn_step rfl (fun K' hK => ?_)
      simp only [Region.wanted]
      have HK := Lib.hid hK
      clear hK
      gi_wp2
      exact HK.out _ _ ⟨Value.pointer (some ⟨bm, om + k, none⟩), by simp [upd, undef, *], Below.refl _ _, rfl⟩
    · simp at ho
      subst ho
      simp [Region.binds] at hpre
      refine wpOpIn_step rfl (fun K' hK => ?_)
      simp only [Region.wanted]
      have HK := Lib.hid hK
      clear hK
      gi_wp2
      exact HK.out _ _ ⟨Value.slice A3 l3 c3, by simp [upd, undef, *], Below.refl _ _, rfl⟩
    · simp at ho
      subst ho
      simp [Region.binds] at hpre
      refine wpOpIn_step rfl (fun K' hK => ?_)
      simp only [Region.wanted]
      have HK := Lib.hid hK
      clear hK
      gi_wp2
      exact HK.out _ _ ⟨Value.int .i64 (b : Int), by simp [upd, undef, *], Below.refl _ _, rfl⟩
    · simp at ho
      subst ho
      simp [Region.binds] at hpre
      have HF := Lib.hid (nat_c (rq_ratl hK20) (HR.out.below (rq_stable K2) hbo) (b : Int))
      refine wpOpIn_step rfl (fun K' hK => ?_)
      simp only [Region.wanted]
      have HK := Lib.hid hK
      clear hK
      gi_wp2_with (gi_at_call 180; (with_reducible refine CallsIn.mono (callsIn_wide.2 HF.out) ?_); rintro e w1 ⟨n7, A7, l7, c7, m7, D7, e7, g7, rfl, hb1, hr1⟩)
      refine HK.out _ _ ⟨(.agg #[.bool n7, .slice A7 l7 c7, .bool m7, .slice D7 e7 g7]), by simp [upd, undef, Qx.v, Qx.zero, *], hb1, ⟨⟨n7, .slice A7 l7 c7, m7, .slice D7 e7 g7⟩, rfl, hr1⟩⟩
    · simp at ho
      subst ho
      simp [Region.binds] at hpre
      obtain ⟨⟨p, g1, hp⟩, ⟨p', g8, hp'⟩⟩ := hpre
      obtain ⟨n5, ⟨A5, l5, c5⟩, m5, ⟨D5, e5, g5⟩, rfl⟩ := Qx.shape ((rq_ratl hK0).slices hp)
      obtain ⟨n6, ⟨A6, l6, c6⟩, m6, ⟨D6, e6, g6⟩, rfl⟩ := Qx.shape ((rq_ratl hK20).slices hp')
      simp only [Qx.v] at g1 g8 hp hp'
      have HF := Lib.hid (mul_q hp hp' hK0 hK20 hK hK2)
      refine wpOpIn_step rfl (fun K' hK => ?_)
      simp only [Region.wanted]
      have HK := Lib.hid hK
      clear hK
      gi_wp2_with (gi_at_call 48; (with_reducible refine CallsIn.mono (callsIn_wide.2 HF.out) ?_); rintro e w1 ⟨n7, A7, l7, c7, m7, D7, e7, g7, rfl, hb1, hr1⟩)
      refine HK.out _ _ ⟨(.agg #[.bool n7, .slice A7 l7 c7, .bool m7, .slice D7 e7 g7]), by simp [upd, undef, Qx.v, Qx.zero, *], hb1, ⟨⟨n7, .slice A7 l7 c7, m7, .slice D7 e7 g7⟩, rfl, hr1.any⟩⟩
  case fin =>
    intro u W' hR hY
    have hbw : Below (w.alloc (.cells #[.bool false, .slice none 0 0, .bool false, .slice none 0 0] 44)).heap.size (w.alloc (.cells #[.bool false, .slice none 0 0, .bool false, .slice none 0 0] 44)) W' := bthen (bdr (b0 (w.alloc (.cells #[.bool false, .slice none 0 0, .bool false, .slice none 0 0] 44)))) hR
    obtain ⟨p, g9, hp⟩ := hY 9 (by omega)
    obtain ⟨n5, ⟨A5, l5, c5⟩, m5, ⟨D5, e5, g5⟩, rfl⟩ := Qx.shape (isQc.slices hp)
    simp only [Qx.v] at g9 hp
    have hbk := Blk.below (Blk.new4 (W := w) (n := w.heap.size) (T := 44) (x := .bool false) (y := .slice none 0 0) (z := .bool false) (u := .slice none 0 0) rfl) hbw
    obtain ⟨z0, z1, z2, z3⟩ := four1 hbk
    have zf := fun j => hbk.frozen j
    have hlt9 := hbk.lt
    have H2 := Lib.hid (st4_el0 (y := Qx.zero) cq_stable (z := ⟨n5, .slice A5 l5 c5, m5, .slice D5 e5 g5⟩) hbk Qx.zero_sl hp)
    have H4 := Lib.hid (st4_belowB (o := 0) (y := ⟨n5, .slice A5 l5 c5, m5, .slice D5 e5 g5⟩) (b := w.heap.size) (bthen (bal (b0 w)) hbw) (Nat.le_refl _))
    clear hY hp hbk hR hbw
    refine wpTail_step (i' := 11) (c := 0) rfl ?_
    rw [g9]
    refine wpOpIn_step rfl (fun K' hK => ?_)
    simp only [Region.wanted, List.getElem_toArray, List.getElem_cons_succ, List.getElem_cons_zero]
    have HK := Lib.hid hK
    clear hK
    gi_wp2
    refine HK.out _ _ (wpTail_end ?_)
    clear HK
    gi_wp2
    refine bodyPost_ret (v := .agg #[.bool n5, .slice A5 l5 c5, .bool m5, .slice D5 e5 g5]) ?_ rfl ?_
    · simp [results, Tryz.results182, go_sem, hlt9, zf, z0, z1, z2, z3]
    · exact ⟨n5, A5, l5, c5, m5, D5, e5, g5, rfl, H4.out, H2.out⟩
end Go.Proofs.YtdkfdamihnieiaaGreat
end
section
/- Contracts of package node, part 3: sum. -/
open Go Go.RowKit Go.Shelf
namespace Go.Proofs.YtdkfdamihnieiaaGreat
open Go.Proofs
attribute [local go_sem] Oper.semAt_some wide_fn wide_depth
set_option maxRecDepth 100000 in
set_option maxHeartbeats 4000000 in
theorem sum_c {B N : Nat} {w : World} {p1 p2 p3 : Value} {R : Nat → Rat} (hT : ∀ k, k < N → ∀ W, Below w.heap.size w W → Calls Tryz.prog 182 #[.int .i64 (k : Int), p1, p2, p3] W (RetQ W (fun _ => True) (R k))) (hR : ∀ k, qB (R k) B) (hB0 : 0 < B) (hB : N * (B + 1) + 1 ≤ 400000000) (hN : N ≤ 1000) :
    Calls Tryz.prog 181 #[.int .i64 (N : Int), .func (.func 182) #[] #[p1, p2, p3]] w (RetQ w (fun _ => True) (dotL R (List.range N))) := by
  have HT := Lib.hid hT
  have HRB := Lib.hid hR
  clear hT hR
  refine (callsIn_wide (n := 10)).1 ?_
  refine callsIn_of_wp Tryz.func181 rfl trivial ?_ rfl
  simp only [Tryz.ntmps181, List.size_toArray, List.length_cons, List.length_nil, Nat.reduceAdd, Nat.reduceSub, Array.replicate_succ, Array.replicate_zero, List.push_toArray, List.append_toArray, List.nil_append, List.cons_append]
  gi_wp2
  gi_loopw [9] (fun iv wr => ∃ (k : Nat) (y : Qx), k ≤ N ∧ iv = .int .i64 (k : Int) ∧ Hid (Blk wr (w.heap.size + 1) 44 y.cs) ∧ Hid (cq wr y.v (dotL R (List.range k))) ∧ Hid (Blk wr w.heap.size 44 Qx.zero.cs) ∧ Below w.heap.size w wr) (fun iv _ => N - (intOf iv).toNat)
  case atStart => exact ⟨0, Qx.zero, by omega, rfl, Lib.hid (Blk.new4 (by simp)), Lib.hid (cq_ratl.zero _), Lib.hid (Blk.al (Blk.new4 rfl)), bal (bal (b0 w))⟩
  case round =>
    obtain ⟨k, y, hk, rfl, HBk, HSm, HZ, hbl⟩ := hrel
    by_cases hlt : k < N
    · obtain ⟨yn, ⟨yA, yl, yc⟩, ym, ⟨yB, yl2, yc2⟩, rfl⟩ := Qx.shape (isQc.slices HSm.out)
      have hsb := (dotL_size (fun k => HRB.out k) (List.range k))
      rw [List.length_range] at hsb
      have htk : dotL R (List.range (k + 1)) = dotL R (List.range k) + R k := by rw [List.range_succ, dotL_snoc]
      obtain ⟨S, hS2⟩ : ∃ S, S = dotL R (List.range k) := ⟨_, rfl⟩
      rw [← hS2] at hsb htk HSm
      have HTK := Lib.hid htk
      have HSB := Lib.hid hsb
      have hlm2 : k * (B + 1) + 1 ≤ 400000000 := Nat.le_trans (Nat.add_le_add_right (Nat.mul_le_mul_right _ hk) 1) hB
      have hlm3 : B ≤ 400000000 := by have : 1 * (B + 1) ≤ N * (B + 1) := Nat.mul_le_mul_right _ (by omega); omega
      have HS := Lib.hid (show cq wr (.agg #[.bool yn, .slice yA yl yc, .bool ym, .slice yB yl2 yc2]) S from HSm.out)
      have HTR := Lib.hid (HT.out k hlt)
      clear htk hsb hS2
      obtain ⟨wo, rfl⟩ : ∃ wo : World, wo = wr := ⟨_, rfl⟩
      gi_wp2
      refine wpIn_region_Y (by kernel_rfl) (by kernel_rfl) 5 1 rfl (by kernel_rfl) (fun u => { tmps := List.toArray ((Value.int IntKind.i64 ↑N) :: (Value.func (Fn.func 182) #[] #[p1, p2, p3]) :: undef :: undef :: (Value.pointer (some { block := w.heap.size, off := 0 })) :: (Value.pointer (some { block := w.heap.size + 1, off := 0 })) :: (Value.int IntKind.i64 ↑k) :: (Value.agg #[Value.bool false, Value.slice none 0 0, Value.bool false, Value.slice none 0 0]) :: (Value.int IntKind.i64 ↑N) :: (Value.int IntKind.i64 ↑k) :: (Value.bool true) :: (Value.int IntKind.i64 ↑k) :: (u 0) :: (u 1) :: (u 2) :: (u 3) :: (u 4) :: u17 :: undef :: []), defers := [] }) (fun k => #[u12, u13, u14, u15, u16].getD k undef) rfl (fun W1 W2 => Below W1.heap.size W1 W2) (fun _ => Below.refl _ _) (fun h1 h2 => bthen h1 h2)
        (fun j9 v W1 => match j9 with
          | 0 => v = Value.agg #[.bool yn, .slice yA yl yc, .bool ym, .slice yB yl2 yc2]
          | 1 => v = Value.func (.func 182) #[] #[p1, p2, p3]
          | 2 => v = Value.int .i64 (k : Int)
          | 3 => ∃ p : Qx, v = p.v ∧ isQc (fun _ => True) W1 p.v (R k)
          | 4 => ∃ p : Qx, v = p.v ∧ isQc (fun _ => True) W1 p.v (S + R k)
          | _ => True) ?hY ?step ?fin
      case hY =>
        intro k v W1 W2 h hb
        match k, h with
        | 0, h => exact h
        | 1, h => exact h
        | 2, h => exact h
        | 3, ⟨p, e, h⟩ => exact ⟨p, e, isQc.below h hb⟩
        | 4, ⟨p, e, h⟩ => exact ⟨p, e, isQc.below h hb⟩
        | k + 5, h => trivial
      case step =>
        intro u W' j o hj ho hR hpre
        have hbw : Below wo.heap.size wo W' := bthen (bdr (b0 wo)) hR
        obtain ⟨z0, z1, z2, z3⟩ := four1 (n3 := .bool yn) (s3 := .slice yA yl yc) (m3 := .bool ym) (t3 := .slice yB yl2 yc2) (HBk.out.below hbw)
        obtain rfl | rfl | rfl | rfl | rfl : j = 0 ∨ j = 1 ∨ j = 2 ∨ j = 3 ∨ j = 4 := by omega
        · simp at ho
          subst ho
          simp [Region.binds] at hpre
          refine wpOpIn_step rfl (fun K' hK => ?_)
          simp only [Region.wanted]
          have HK := Lib.hid hK
          clear hK
          gi_wp2
          exact HK.out _ _ ⟨Value.agg #[.bool yn, .slice yA yl yc, .bool ym, .slice yB yl2 yc2], by simp [upd, undef, *], Below.refl _ _, rfl⟩
        · simp at ho
          subst ho
          simp [Region.binds] at hpre
          refine wpOpIn_step rfl (fun K' hK => ?_)
          simp only [Region.wanted]
          have HK := Lib.hid hK
          clear hK
          gi_wp2
          exact HK.out _ _ ⟨Value.func (.func 182) #[] #[p1, p2, p3], by simp [upd, undef, *], Below.refl _ _, rfl⟩
        · simp at ho
          subst ho
          simp [Region.binds] at hpre
          refine wpOpIn_step rfl (fun K' hK => ?_)
          simp only [Region.wanted]
          have HK := Lib.hid hK
          clear hK
          gi_wp2
          exact HK.out _ _ ⟨Value.int .i64 (k : Int), by simp [upd, undef, *], Below.refl _ _, rfl⟩
        · simp at ho
          subst ho
          simp [Region.binds] at hpre
          have HF := Lib.hid (HTR.out W' (bthen hbl hbw))
          refine wpOpIn_step rfl (fun K' hK => ?_)
          simp only [Region.wanted]
          have HK := Lib.hid hK
          clear hK
          gi_wp2_with (gi_at_call 182; (with_reducible refine CallsIn.mono (callsIn_wide.2 HF.out) ?_); rintro e w1 ⟨n7, A7, l7, c7, m7, D7, e7, g7, rfl, hb1, hr1⟩)
          refine HK.out _ _ ⟨(.agg #[.bool n7, .slice A7 l7 c7, .bool m7, .slice D7 e7 g7]), by simp [upd, undef, Qx.v, Qx.zero, *], hb1, ⟨⟨n7, .slice A7 l7 c7, m7, .slice D7 e7 g7⟩, rfl, hr1.any⟩⟩
        · simp at ho
          subst ho
          simp [Region.binds] at hpre
          obtain ⟨g0, p, g3, hp⟩ := hpre
          obtain ⟨n6, ⟨A6, l6, c6⟩, m6, ⟨D6, e6, g6⟩, rfl⟩ := Qx.shape (isQc.slices hp)
          simp only [Qx.v] at g3 hp
          have HF := Lib.hid (add_q (isQc.q (cq_stable.below HS.out hbw) HSB.out) (isQc.q hp (HRB.out k)) (by omega) hB0 hlm2 hlm3)
          refine wpOpIn_step rfl (fun K' hK => ?_)
          simp only [Region.wanted]
          have HK := Lib.hid hK
          clear hK
          gi_wp2_with (gi_at_call 29; (with_reducible refine CallsIn.mono (callsIn_wide.2 HF.out) ?_); rintro e w1 ⟨n7, A7, l7, c7, m7, D7, e7, g7, rfl, hb1, hr1⟩)
          refine HK.out _ _ ⟨(.agg #[.bool n7, .slice A7 l7 c7, .bool m7, .slice D7 e7 g7]), by simp [upd, undef, Qx.v, Qx.zero, *], hb1, ⟨⟨n7, .slice A7 l7 c7, m7, .slice D7 e7 g7⟩, rfl, hr1.any⟩⟩
      case fin =>
        intro u W' hR hY
        have hbw : Below wo.heap.size wo W' := bthen (bdr (b0 wo)) hR
        obtain ⟨p, g5, hp⟩ := hY 4 (by omega)
        obtain ⟨n5, ⟨A5, l5, c5⟩, m5, ⟨D5, e5, g5'⟩, rfl⟩ := Qx.shape (isQc.slices hp)
        simp only [Qx.v] at g5 hp
        have hbk := HBk.out.below hbw
        have hsl := isQc.slices HSm.out
        obtain ⟨z0, z1, z2, z3⟩ := four1 (n3 := .bool yn) (s3 := .slice yA yl yc) (m3 := .bool ym) (t3 := .slice yB yl2 yc2) hbk
        have zf := fun j => hbk.frozen j
        have hlt9 := hbk.lt
        have H1 := Lib.hid (st4_blk0 (z := ⟨n5, .slice A5 l5 c5, m5, .slice D5 e5 g5'⟩) hbk)
        have H2 := Lib.hid (st4_el0 cq_stable (z := ⟨n5, .slice A5 l5 c5, m5, .slice D5 e5 g5'⟩) hbk hsl hp)
        have H3 := Lib.hid (st4_blkNe (o := 0) (y := ⟨n5, .slice A5 l5 c5, m5, .slice D5 e5 g5'⟩) (b' := w.heap.size + 1) (HZ.out.below hbw) (by omega))
        have H4 := Lib.hid (st4_belowB (o := 0) (y := ⟨n5, .slice A5 l5 c5, m5, .slice D5 e5 g5'⟩) (b := w.heap.size + 1) (bthen hbl hbw) (by omega))
        clear hY hp hbk hsl hR hbw
        refine wpTail_step (i' := 6) (c := 0) rfl ?_
        rw [g5]
        refine wpOpIn_step rfl (fun K' hK => ?_)
        simp only [Region.wanted, List.getElem_toArray, List.getElem_cons_succ, List.getElem_cons_zero]
        have HK := Lib.hid hK
        clear hK
        gi_wp2
        refine HK.out _ _ (wpTail_end ?_)
        clear HK
        gi_wp2
        go_roundw
        case rel =>
          refine ⟨k + 1, ⟨n5, .slice A5 l5 c5, m5, .slice D5 e5 g5'⟩, by omega, val_int (by omega), H1, Lib.hid ?_, H3, H4.out⟩
          rw [HTK.out]; exact H2.out
        case measure => simp [intOf]; omega
    · obtain rfl : k = N := by omega
      obtain ⟨yn, ⟨yA, yl, yc⟩, ym, ⟨yB, yl2, yc2⟩, rfl⟩ := Qx.shape (isQc.slices HSm.out)
      obtain ⟨z0, z1, z2, z3⟩ := four1 (n3 := .bool yn) (s3 := .slice yA yl yc) (m3 := .bool ym) (t3 := .slice yB yl2 yc2) HBk.out
      obtain ⟨t0, t1, t2, t3⟩ := four1 (n3 := .bool false) (s3 := .slice none 0 0) (m3 := .bool false) (t3 := .slice none 0 0) HZ.out
      have tf := fun j => HZ.out.frozen j
      have hlt8 := HZ.out.lt
      gi_wp2
      refine bodyPost_ret (v := .agg #[.bool yn, .slice yA yl yc, .bool ym, .slice yB yl2 yc2]) ?_ rfl ?_
      · simp [results, Tryz.results181, go_sem, t0, t1, t2, t3]
      · exact ⟨yn, yA, yl, yc, ym, yB, yl2, yc2, rfl, st4_belowB (o := 0) (y := ⟨yn, .slice yA yl yc, ym, .slice yB yl2 yc2⟩) hbl (Nat.le_refl _), st4_el0 cq_stable (z := ⟨yn, .slice yA yl yc, ym, .slice yB yl2 yc2⟩) HZ.out Qx.zero_sl HSm.out⟩
end Go.Proofs.YtdkfdamihnieiaaGreat
end
section
/- Contracts of package node, part 4: two rows in the making. -/
open Go Go.RowKit Go.Shelf
namespace Go.Proofs.YtdkfdamihnieiaaGreat
open Go.Proofs
/-- In neither row. -/
def ok2 (s1 s2 : Value) : Nat → Prop := fun b => okr s1 b ∧ okr s2 b
theorem isQc.appended2 {W W1 : World} {s1 s2 v' v : Value} {q : Rat} (h : isQc (ok2 s1 s2) W v q) (hg : W.grownBy W1 s1.ownBlock) (hb : ∀ g, v'.ownBlock = some g → s1.ownBlock = some g ∨ W.heap.size ≤ g) : isQc (ok2 v' s2) W1 v q := by
  have h1 : isQc (fun k => ok2 s1 s2 k ∧ k < W.heap.size) W v q := h.mono (fun b hb hk => ⟨hk, hb⟩)
  have h2 : isQc (fun k => ok2 s1 s2 k ∧ k < W.heap.size) W1 v q := by
    cases ho : s1.ownBlock with
    | none => rw [ho] at hg; exact h1.grown hg (fun r e => by cases e)
    | some g =>
      rw [ho] at hg
      exact h1.row hg (fun b hk e => by subst e; exact hk.1.1 ho)
  refine h2.mono (fun b _ hk => ⟨?_, hk.1.2⟩)
  intro e
  rcases hb b e with h3 | h3
  · exact hk.1.1 h3
  · have := hk.2; omega
/-- Two rows in the making, apart. -/
structure TwoI (w : World) (W : World) (s1 s2 : Value) (q1 q2 : List Rat) (l1 l2 : List Qx) : Prop where
  own1 : W.ownsRow w.heap.size 44 4 s1 q1.length (qcs l1)
  own2 : W.ownsRow w.heap.size 44 4 s2 q2.length (qcs l2)
  apart : ∀ g, s1.ownBlock = some g → s2.ownBlock ≠ some g
  len1 : l1.length = q1.length
  len2 : l2.length = q2.length
  el1 : ∀ j (hj : j < l1.length), isQc (ok2 s1 s2) W (l1[j]).v (q1.getD j 0)
  el2 : ∀ j (hj : j < l2.length), isQc (ok2 s1 s2) W (l2[j]).v (q2.getD j 0)
  below : Below w.heap.size w W
theorem TwoI.start (w : World) : TwoI w w (.slice none 0 0) (.slice none 0 0) [] [] [] [] :=
  ⟨World.ownsRow_nil _ _ _ _, World.ownsRow_nil _ _ _ _, fun g h => (by cases h), rfl, rfl, fun j hj => (by simp at hj), fun j hj => (by simp at hj), b0 w⟩
theorem ok2_swap {s1 s2 W v q} (h : isQc (ok2 s1 s2) W v q) : isQc (ok2 s2 s1) W v q := h.mono fun _ _ h => ⟨h.2, h.1⟩
theorem TwoI.swap {w W s1 s2 q1 q2 l1 l2} (H : TwoI w W s1 s2 q1 q2 l1 l2) : TwoI w W s2 s1 q2 q1 l2 l1 :=
  ⟨H.own2, H.own1, fun g h h1 => H.apart g h1 h, H.len2, H.len1, fun j hj => ok2_swap (H.el2 j hj), fun j hj => ok2_swap (H.el1 j hj), H.below⟩
theorem TwoI.later {w W W' s1 s2 q1 q2 l1 l2} (H : TwoI w W s1 s2 q1 q2 l1 l2) (hb : Below W.heap.size W W') : TwoI w W' s1 s2 q1 q2 l1 l2 :=
  ⟨row_below H.own1 hb, row_below H.own2 hb, H.apart, H.len1, H.len2, fun j hj => isQc.below (H.el1 j hj) hb, fun j hj => isQc.below (H.el2 j hj) hb, bthen H.below hb⟩
theorem TwoI.fresh {w W s1 s2 q1 q2 l1 l2} (H : TwoI w W s1 s2 q1 q2 l1 l2) {b : Nat} (hb : W.heap.size ≤ b) : ok2 s1 s2 b :=
  ⟨fun e => by have := (H.own1.lt b e).2; omega, fun e => by have := (H.own2.lt b e).2; omega⟩
/-- One more in the first row. -/
theorem TwoI.step {w W W1 s1 s2 q1 q2 l1 l2} (H : TwoI w W s1 s2 q1 q2 l1 l2) {v' : Value} {y : Qx} {q : Rat} (hy : isQc (ok2 s1 s2) W y.v q) (hown : W1.ownsRow w.heap.size 44 4 v' (q1.length + 1) (qcs l1 ++ y.cs)) (hg : W.grownBy W1 s1.ownBlock) (hb : ∀ g, v'.ownBlock = some g → s1.ownBlock = some g ∨ W.heap.size ≤ g) : TwoI w W1 v' s2 (q1 ++ [q]) q2 (l1 ++ [y]) l2 := by
  refine ⟨?_, ?_, fun g h1 h2 => ?_, by simp [H.len1], H.len2, fun j hj => ?_, fun j hj => (H.el2 j hj).appended2 hg hb, H.below.grown hg H.below.size (fun r hr => (H.own1.lt r hr).1)⟩
  · rw [qcs_append, qcs_one, List.length_append, List.length_singleton]; exact hown
  · refine H.own2.kept hg ?_
    cases ho : s2.ownBlock with
    | none => exact .inl rfl
    | some g => exact .inr (fun e => H.apart g e.symm ho)
  · rcases hb g h1 with h3 | h3
    · exact H.apart g h3 h2
    · have := (H.own2.lt g h2).2; omega
  · by_cases hjl : j < l1.length
    · rw [List.getElem_append_left hjl, (getD_snoc q1 q j).1 (by have := H.len1; omega)]
      exact (H.el1 j hjl).appended2 hg hb
    · have hje : j = l1.length := by simp at hj; omega
      subst hje
      rw [List.getElem_append_right (Nat.le_refl _), (getD_snoc q1 q _).2 H.len1]
      simp only [Nat.sub_self, List.getElem_cons_zero]
      exact hy.appended2 hg hb
theorem TwoI.vq {w W s1 s2 q1 q2 l1 l2} (n0 : Nat) (H : TwoI w W s1 s2 q1 q2 l1 l2) : Vq n0 cq W s1 q1 := (own_vq (n0 := n0) (E := cq) H.own1 H.len1 (fun j hj => (H.el1 j hj).any)).1
def levL (bs : List Rat) (is : List Int) (k : Nat) : List Rat := (List.range k).map fun j => atI bs (is.getD j 0)
def jamE (F : List (List Rat)) (ls : List Rat) (b : Nat) : Rat := dotL (fun l => atI ls (l : Int) * atI (F.getD l []) (b : Int)) (List.range F.length)
def jamL (F : List (List Rat)) (ls : List Rat) (k : Nat) : List Rat := (List.range k).map fun b => -(jamE F ls b)
theorem levL_succ (bs : List Rat) (is : List Int) (k : Nat) : levL bs is (k + 1) = levL bs is k ++ [atI bs (is.getD k 0)] := by unfold levL; rw [List.range_succ, List.map_append]; rfl
theorem jamL_succ (F : List (List Rat)) (ls : List Rat) (k : Nat) : jamL F ls (k + 1) = jamL F ls k ++ [-(jamE F ls k)] := by unfold jamL; rw [List.range_succ, List.map_append]; rfl
theorem levL_length (bs : List Rat) (is : List Int) (k : Nat) : (levL bs is k).length = k := by simp [levL]
theorem jamL_length (F : List (List Rat)) (ls : List Rat) (k : Nat) : (jamL F ls k).length = k := by simp [jamL]
theorem vq_atI {n0 B : Nat} {w : World} {v : Value} {qs : List Rat} (h : Vq n0 (rq B) w v qs) (hB : 0 < B) (i : Int) : qB (atI qs i) B := by
  unfold atI
  split
  · exact qB_zero hB
  · obtain ⟨f, hf⟩ := h.view (rq_ratl hB)
    exact isQ.size (hf.el _) hB
end Go.Proofs.YtdkfdamihnieiaaGreat
end
section
/- Contracts of package node, part 5: Split. -/
open Go Go.RowKit Go.Shelf
namespace Go.Proofs.YtdkfdamihnieiaaGreat
open Go.Proofs
set_option maxRecDepth 100000 in
set_option maxHeartbeats 4000000 in
theorem split_c {n0 K KL K2 : Nat} {w : World} {vi vb vm vl : Value} {is : List Int} {bs ls : List Rat} {F : List (List Rat)} (hi : Vi w vi is) (hb : Vq n0 (rq K) w vb bs) (hm : Vm n0 (rq K2) w vm F) (hl : Vq n0 (rq KL) w vl ls) (hK0 : 0 < K) (hK : K ≤ 400000000) (hKL0 : 0 < KL) (hKL : KL ≤ 400000000) (hK20 : 0 < K2) (hK2 : K2 ≤ 400000000) (hF : F.length ≤ 1000) (hS : F.length * (KL + K2 + 1) + 1 ≤ 400000000) (hn : is.length ≤ 65536) :
    Calls Tryz.prog 113 #[vi, vb, vm, vl] w fun e w' => ∃ A1 l1 c1 A2 l2 c2, e = .returned (.tuple #[.slice A1 l1 c1, .slice A2 l2 c2]) ∧ Below w.heap.size w w' ∧ Vq n0 cq w' (.slice A1 l1 c1) (levL bs is is.length) ∧ Vq n0 cq w' (.slice A2 l2 c2) (jamL F ls is.length) := by
  have HI := Lib.hid hi
  have HB := Lib.hid hb
  have HM := Lib.hid hm
  have HL := Lib.hid hl
  obtain ⟨A1, l1, c1, rfl⟩ := hi.shape
  obtain ⟨A2, l2, c2, rfl⟩ := hb.shape
  obtain ⟨A3, l3, c3, rfl⟩ := hm.shape
  obtain ⟨A4, l4, c4, rfl⟩ := hl.shape
  have e1 := hi.len
  have e3 := hm.len
  subst e1 e3
  obtain ⟨i0, hif, hz0, hz1, hz2⟩ := info_parts' Tryz.info44
  have hjq : ∀ b l : Nat, qB (atI ls (l : Int) * atI (F.getD l []) (b : Int)) (KL + K2) := fun b l => by
    refine qB_mul (vq_atI hl hKL0 _) ?_
    rw [atI_nat]
    have := hm.qb hK20 l b
    exact this
  have HJQ := Lib.hid hjq
  have hjs : ∀ b, qB (jamE F ls b) (F.length * (KL + K2 + 1) + 1) := fun b => by
    have := dotL_size (hjq b) (List.range F.length)
    rw [List.length_range] at this
    exact this
  have HJS := Lib.hid hjs
  obtain ⟨wb, hwb⟩ : ∃ wb, wb = (w.alloc (.cells #[.slice A3 F.length c3] 56)).alloc (.cells #[.slice A4 l4 c4] 26) := ⟨_, rfl⟩
  have hbw : Below w.heap.size w wb := by rw [hwb]; exact bal (bal (b0 w))
  have hB6 : Blk wb w.heap.size 56 [.slice A3 F.length c3] := by rw [hwb]; exact Blk.al (Blk.new w _ 56 rfl)
  have hB7 : Blk wb (w.heap.size + 1) 26 [.slice A4 l4 c4] := by rw [hwb]; exact Blk.new _ _ 26 (by simp)
  have HBW := Lib.hid hbw
  have H6 := Lib.hid hB6
  have H7 := Lib.hid hB7
  have HWB := Lib.hid hwb
  clear hi hb hm hl hjq hjs hbw hB6 hB7 hwb
  go_enter Tryz.func113, Tryz.ntmps113
  go_wp2
  rw [← HWB.out]
  have hlim := HI.out.lim
  go_loopg [8, 9, 15] is.length (fun gh s1 s2 iv wr => ∃ (k : Nat) (B1 : Option Addr) (d1 : Nat) (B2 : Option Addr) (d2 : Nat) (m1 m2 : List Qx), gh = is.length - k ∧ k ≤ is.length ∧ s1 = .slice B1 k d1 ∧ s2 = .slice B2 k d2 ∧ iv = .int .i64 (k : Int) ∧ Hid (TwoI wb wr (.slice B1 k d1) (.slice B2 k d2) (levL bs is k) (jamL F ls k) m1 m2))
  case atStart => exact ⟨0, none, 0, none, 0, [], [], rfl, by omega, rfl, rfl, rfl, Lib.hid (TwoI.start wb)⟩
  case round =>
    obtain ⟨k, B1, d1, B2, d2, m1, m2, rfl, hk, rfl, rfl, rfl, HT⟩ := hrel
    obtain ⟨wo, rfl⟩ : ∃ wo : World, wo = wr := ⟨_, rfl⟩
    by_cases hlt : k < is.length
    · have hbo := bthen HBW.out HT.out.below
      obtain ⟨bi, oi, hA, hci⟩ := (HI.out.below hbo).at (by omega)
      subst hA
      have x0 := hci k hlt
      have hbi : bi < wo.heap.size := World.block_lt_of_cell? wo _ x0
      obtain ⟨z, hz⟩ : ∃ z, z = is.getD k 0 := ⟨_, rfl⟩
      rw [← hz] at x0
      have HN := Lib.hid (fun W (h : Below wo.heap.size wo W) => nat_c (rq_ratl hK0) (HB.out.below (rq_stable K) (bthen hbo h)) z)
      have HZ := Lib.hid hz
      have HBO := Lib.hid hbo
      clear hci hz hbo
      have HBB := Lib.hid (Blk.new wo [.int .i64 (k : Int)] 3 rfl)
      go_wp2_with (first
        | (go_at_call 180; (with_reducible refine Calls.mono (HN.out _ (bal (b0 wo))) ?_); rintro e w1 ⟨n3, D3, e3, f3, m3, G3, g3, h3, rfl, hb1, hr1⟩; have HR1 := Lib.hid (show isQ (fun _ => True) w1 _ (atI bs z) K from hr1); have HB1 := Lib.hid hb1; clear hb1 hr1)
        | (go_at_call 90; (with_reducible refine Calls.mono (canon_q HR1.out hK0 hK) ?_); rintro e w2 ⟨n4, D4, e4, f4, m4, G4, g4, h4, rfl, hb2, hr2⟩; have hbb := bthen HB1.out hb2; have htl := HT.out.later (bthen (bal (b0 wo)) hbb); have htm := htl.later (bal (b0 w2) (o := .cells #[.bool n4, .slice D4 e4 f4, .bool m4, .slice G4 g4 h4] 44)); have HM2 := Lib.hid htm; have HTL := Lib.hid htl; have HQ4 := Lib.hid (isQc.al (o := .cells #[.bool n4, .slice D4 e4 f4, .bool m4, .slice G4 g4 h4] 44) (hr2.mono (fun b _ hb => (HT.out.later (bthen (bal (b0 wo)) HB1.out)).fresh hb))); have HB2 := Lib.hid ((HBB.out.below hbb).below (bal (b0 w2) (o := .cells #[.bool n4, .slice D4 e4 f4, .bool m4, .slice G4 g4 h4] 44))); clear htl htm hb2 hr2 hbb)
        | (at_builtin; refine wpList_append_1 rfl (.tmp 20) (.tmp 25) 26 rfl wb.heap.size 44 i0 (.agg #[.bool false, .slice none 0 0, .bool false, .slice none 0 0]) 4 64 Tryz.under26 hif hz0 hz1 hz2 rfl (by decide) _ _ _ rfl HM2.out.own1 ⟨w2.heap.size, 0, none⟩ 1 1 [.bool n4, .slice D4 e4 f4, .bool m4, .slice G4 g4 h4] rfl rfl ?c1 ?c2 ?c3 ?c4 ?c5 ?_))
      case c1 =>
        intro j u hu
        rw [addr_add0, Nat.zero_add, World.cell?_alloc_new]; simpa using hu
      case c2 => exact Qx.one ⟨n4, .slice D4 e4 f4, m4, .slice G4 g4 h4⟩ ⟨_, _, _, rfl⟩ ⟨_, _, _, rfl⟩
      case c3 => rw [levL_length]; unfold maxLen; omega
      case c4 => rw [levL_length]; omega
      case c5 => exact HM2.out.below.size
      intro A9 cc w3 hown' hgrow hblk
      rw [levL_length] at hown' hblk ⊢
      have hst := HM2.out.step (y := ⟨n4, .slice D4 e4 f4, m4, .slice G4 g4 h4⟩) (q := atI bs z) HQ4.out (v' := .slice A9 (k + 1) cc) (by rw [levL_length]; exact hown') hgrow (fun g hg => (hblk g hg).imp_right (fun h => by simpa using h))
      have hb3 : Blk w3 wo.heap.size 3 [.int .i64 (k : Int)] := (hgrow.block _ HB2.out.lt (fun e => own_apart HM2.out.own1 HB2.out (by decide) e)).trans HB2.out
      have hlev : levL bs is k ++ [atI bs z] = levL bs is (k + 1) := by rw [levL_succ, HZ.out]
      rw [hlev] at hst
      have HST := Lib.hid hst
      have HB3 := Lib.hid hb3
      have HSM := Lib.hid (sum_c (w := w3) (N := F.length) (B := KL + K2) (p1 := .pointer (some ⟨w.heap.size + 1, 0, none⟩)) (p2 := .pointer (some ⟨w.heap.size, 0, none⟩)) (p3 := .pointer (some ⟨wo.heap.size, 0, none⟩)) (R := fun l => atI ls (l : Int) * atI (F.getD l []) (k : Int)) (fun l hl W hW => by
        have hbB := bthen HST.out.below hW
        have hbW := bthen HBW.out hbB
        exact split1_c (HL.out.below (rq_stable KL) hbW) (HM.out.below (rq_stable K2) hbW) hl ((H7.out.below hbB).cell 0) ((H6.out.below hbB).cell 0) ((HB3.out.below hW).cell 0) hKL0 hKL hK20 hK2) (HJQ.out k) (by omega) hS hF)
      have y6 : w3.cell? ⟨w.heap.size, 0, none⟩ = some (.slice A3 F.length c3) := (H6.out.below hst.below).cell 0
      clear hst hown' hgrow hblk hb3 hlev
      go_wp2_with (first
        | (go_at_call 181; (with_reducible refine Calls.mono HSM.out ?_); rintro e w4 ⟨n5, D5, e5, f5, m5, G5, g5, h5, rfl, hb4, hr4⟩; have HR4 := Lib.hid (show isQc (fun _ => True) (w4.alloc (.cells #[.bool n5, .slice D5 e5 f5, .bool m5, .slice G5 g5 h5] 44)) _ (jamE F ls k) from isQc.al (o := .cells #[.bool n5, .slice D5 e5 f5, .bool m5, .slice G5 g5 h5] 44) hr4); have HB4 := Lib.hid hb4; clear hb4 hr4)
        | (go_at_call 67; (with_reducible refine Calls.mono (neg_q (isQc.q HR4.out (HJS.out k)) (by omega) hS) ?_); rintro e w5 ⟨n6, D6, e6, f6, m6, G6, g6, h6, rfl, hb5, hr5⟩; have hbb := bthen HB4.out (bthen (bal (b0 w4)) hb5); have htl := HST.out.later hbb; have htm := htl.later (bal (b0 w5) (o := .cells #[.bool n6, .slice D6 e6 f6, .bool m6, .slice G6 g6 h6] 44)); have HM5 := Lib.hid htm; have HQ6 := Lib.hid (isQc.al (o := .cells #[.bool n6, .slice D6 e6 f6, .bool m6, .slice G6 g6 h6] 44) (hr5.mono (fun b _ hb => (HST.out.later (bthen HB4.out (bal (b0 w4)))).fresh hb))); clear htl htm hb5 hr5 hbb)
        | (at_builtin; refine wpList_append_1 rfl (.tmp 31) (.tmp 34) 26 rfl wb.heap.size 44 i0 (.agg #[.bool false, .slice none 0 0, .bool false, .slice none 0 0]) 4 64 Tryz.under26 hif hz0 hz1 hz2 rfl (by decide) _ _ _ rfl HM5.out.own2 ⟨w5.heap.size, 0, none⟩ 1 1 [.bool n6, .slice D6 e6 f6, .bool m6, .slice G6 g6 h6] rfl rfl ?c1 ?c2 ?c3 ?c4 ?c5 ?_))
      case c1 =>
        intro j u hu
        rw [addr_add0, Nat.zero_add, World.cell?_alloc_new]; simpa using hu
      case c2 => exact Qx.one ⟨n6, .slice D6 e6 f6, m6, .slice G6 g6 h6⟩ ⟨_, _, _, rfl⟩ ⟨_, _, _, rfl⟩
      case c3 => rw [jamL_length]; unfold maxLen; omega
      case c4 => rw [jamL_length]; omega
      case c5 => exact HM5.out.below.size
      intro A8 c8 w6 hown' hgrow hblk
      rw [jamL_length] at hown' hblk ⊢
      have hst := (HM5.out.swap.step (y := ⟨n6, .slice D6 e6 f6, m6, .slice G6 g6 h6⟩) (q := -(jamE F ls k)) (ok2_swap HQ6.out) (v' := .slice A8 (k + 1) c8) (by rw [jamL_length]; exact hown') hgrow (fun g hg => (hblk g hg).imp_right (fun h => by simpa using h))).swap
      rw [← jamL_succ] at hst
      have HS6 := Lib.hid hst
      clear hst hown' hgrow hblk
      go_wp2
      go_roundg (is.length - (k + 1))
      case rel => exact ⟨k + 1, A9, cc, A8, c8, _, _, rfl, by omega, rfl, rfl, val_int (by omega), HS6⟩
      case measure => omega
    · obtain rfl : k = is.length := by omega
      go_wp2
      refine bodyPost_ret (v := .tuple #[.slice B1 is.length d1, .slice B2 is.length d2]) ?_ rfl ⟨B1, _, d1, B2, _, d2, rfl, bthen HBW.out HT.out.below, HT.out.vq n0, HT.out.swap.vq n0⟩
      simp [results, Tryz.results113, go_sem]
end Go.Proofs.YtdkfdamihnieiaaGreat
end
section
/- Contracts of package node, part 6: Prices; the guard of the statements. -/
open Go Go.RowKit Go.Shelf
namespace Go.Proofs.YtdkfdamihnieiaaGreat
open Go.Proofs
/-- The prices. -/
def priceL (is : List Int) (bs : List Rat) (F : List (List Rat)) (ls : List Rat) : List Rat := zipq (· + ·) (levL bs is is.length) (jamL F ls is.length)
theorem priceL_length (is bs F ls) : (priceL is bs F ls).length = is.length := by unfold priceL; rw [zipq_length, levL_length, jamL_length]; omega
theorem priceL_getD (is bs F ls) {k : Nat} (hk : k < is.length) : (priceL is bs F ls).getD k 0 = atI bs (is.getD k 0) + -(jamE F ls k) := by
  unfold priceL
  rw [zipq_getD (· + ·) (Rat.add_zero 0)]
  congr 1
  · unfold levL; rw [List.getD_eq_getElem?_getD, List.getElem?_map, List.getElem?_range hk]; rfl
  · unfold jamL; rw [List.getD_eq_getElem?_getD, List.getElem?_map, List.getElem?_range hk]; rfl
set_option maxRecDepth 100000 in
set_option maxHeartbeats 4000000 in
theorem prices_c {n0 K KL K2 : Nat} {w : World} {vi vb vm vl : Value} {is : List Int} {bs ls : List Rat} {F : List (List Rat)} (hi : Vi w vi is) (hb : Vq n0 (rq K) w vb bs) (hm : Vm n0 (rq K2) w vm F) (hl : Vq n0 (rq KL) w vl ls) (hK0 : 0 < K) (hK : K ≤ 400000000) (hKL0 : 0 < KL) (hKL : KL ≤ 400000000) (hK20 : 0 < K2) (hK2 : K2 ≤ 400000000) (hF : F.length ≤ 1000) (hS : K + (F.length * (KL + K2 + 1) + 1) ≤ 400000000) (hn : is.length ≤ 65536) :
    Calls Tryz.prog 42 #[vi, vb, vm, vl] w (RetV w n0 (priceL is bs F ls)) := by
  have HSP := Lib.hid (split_c (w := w) hi hb hm hl hK0 hK hKL0 hKL hK20 hK2 hF (by omega) hn)
  have h1 : ∀ q ∈ levL bs is is.length, qB q (K + (F.length * (KL + K2 + 1) + 1)) := fun q hq => by
    unfold levL at hq
    obtain ⟨j, _, rfl⟩ := List.mem_map.1 hq
    exact (vq_atI hb hK0 _).mono (by omega)
  have h2 : ∀ q ∈ jamL F ls is.length, qB q (K + (F.length * (KL + K2 + 1) + 1)) := fun q hq => by
    unfold jamL at hq
    obtain ⟨b, _, rfl⟩ := List.mem_map.1 hq
    have := dotL_size (R := fun l => atI ls (l : Int) * atI (F.getD l []) (b : Int)) (B := KL + K2) (fun l => qB_mul (vq_atI hl hKL0 _) (by
      rw [atI_nat]
      have := hm.qb hK20 l b
      exact this)) (List.range F.length)
    rw [List.length_range] at this
    exact (qB_neg this).mono (by omega)
  have H1 := Lib.hid h1
  have H2 := Lib.hid h2
  have hP : priceL is bs F ls = zipq (· + ·) (levL bs is is.length) (jamL F ls is.length) := rfl
  have hn1 := levL_length bs is is.length
  have hn2 := jamL_length F ls is.length
  obtain ⟨q1, hq1⟩ : ∃ q1, q1 = levL bs is is.length := ⟨_, rfl⟩
  obtain ⟨q2, hq2⟩ : ∃ q2, q2 = jamL F ls is.length := ⟨_, rfl⟩
  obtain ⟨BB, hBB⟩ : ∃ BB, BB = K + (F.length * (KL + K2 + 1) + 1) := ⟨_, rfl⟩
  rw [← hq1] at hn1 hP HSP H1
  rw [← hq2] at hn2 hP HSP H2
  rw [← hBB] at hS H1 H2
  have HP := Lib.hid hP
  have HN := Lib.hid (And.intro hn1 hn2)
  have hB0 : 0 < BB := by omega
  obtain ⟨A1, l1, c1, rfl⟩ := hi.shape
  obtain ⟨A2, l2, c2, rfl⟩ := hb.shape
  obtain ⟨A3, l3, c3, rfl⟩ := hm.shape
  obtain ⟨A4, l4, c4, rfl⟩ := hl.shape
  clear hi hb hm hl h1 h2 hP hq1 hq2 hBB hn1 hn2
  go_enter Tryz.func42, Tryz.ntmps42
  go_wp2_with (first
    | (go_at_call 113; (with_reducible refine Calls.mono HSP.out ?_); rintro e w1 ⟨B1, k1, d1, B2, k2, d2, rfl, hb1, hv1, hv2⟩; have HB1 := Lib.hid hb1; have HA := Lib.hid (vadd_c (hv1.rq H1.out) (hv2.rq H2.out) hB0 hS (by have := HN.out.1; omega) (by have := HN.out.2; omega)); clear hb1 hv1 hv2)
    | (go_at_call 112; (with_reducible refine Calls.mono HA.out ?_); rintro e w2 ⟨B3, k3, d3, rfl, hb2, hv3, hf3⟩; have HB2 := Lib.hid hb2; have HV3 := Lib.hid hv3; have HF3 := Lib.hid hf3; clear hb2 hv3 hf3))
  go_ret
  rw [HP.out]
  exact ⟨B3, k3, d3, rfl, bthen HB1.out HB2.out, HV3.out, fun b o e => Nat.le_trans HB1.out.size (HF3.out b o e)⟩
/-- Whether the arguments are long. -/
def RetLong (w : World) (n1 n2 n3 : Nat) : Ending → World → Prop := fun e w' => ∃ bb, e = .returned (.bool bb) ∧ Below w.heap.size w w' ∧ (bb = false → n1 ≤ 30 ∧ n2 ≤ 30 ∧ n3 ≤ 30)
set_option maxRecDepth 100000 in
theorem long38_c {w : World} {b : Int} {v vo vr : Value} {ls : List Ln} {out : List Int} {rs : List Rt} (h : Vl w v ls) (ho : Vi w vo out) (hr : Vr w vr rs) : Calls Tryz.prog 35 #[.agg #[.int .i64 b, v], vo, vr] w (RetLong w ls.length out.length rs.length) := by
  obtain ⟨A1, l1, c1, rfl⟩ := h.shape
  obtain ⟨A2, l2, c2, rfl⟩ := ho.shape
  obtain ⟨A3, l3, c3, rfl⟩ := hr.shape
  have e1 := h.len
  have e2 := ho.len
  have e3 := hr.len
  subst e1 e2 e3
  have hm1 := h.lim
  have hm2 := ho.lim
  have hm3 := hr.lim
  clear h ho hr
  go_enter Tryz.func35, Tryz.ntmps35
  go_wp2
  all_goals go_ret
  all_goals refine ⟨_, rfl, bal (b0 w), ?_⟩
  all_goals first | (intro h; cases h; done) | (intro h; simp at h; omega)
end Go.Proofs.YtdkfdamihnieiaaGreat
end
