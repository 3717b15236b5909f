/- island.Refs, island.Of. -/
import Derived.Test.YtdkfdamihnieiaaGreatG24
import Derived.Test.YtdkfdamihnieiaaGreatG21
set_option linter.unusedSimpArgs false
set_option linter.unusedVariables false
section
open Go Go.RowKit Go.Shelf
namespace Go.Proofs.YtdkfdamihnieiaaGreat
open Go.Proofs
/-- The places that point at themselves. -/
def selfS (ps : List Nat) (n : Nat) : List Nat := (List.range n).filter fun b => ps.getD b 0 == b
theorem selfS_succ (ps : List Nat) (n : Nat) : selfS ps (n + 1) = selfS ps n ++ if ps.getD n 0 = n then [n] else [] := by
  unfold selfS
  rw [List.range_succ, List.filter_append]
  congr 1
  by_cases h : ps.getD n 0 = n
  · rw [if_pos h]; simp only [List.filter_cons, List.filter_nil]; rw [if_pos (by simpa using h)]
  · rw [if_neg h]; simp only [List.filter_cons, List.filter_nil]; rw [if_neg (by simpa using h)]
theorem selfS_le (ps : List Nat) (n : Nat) : (selfS ps n).length ≤ n := by unfold selfS; exact Nat.le_trans (List.length_filter_le _ _) (by simp)
def refsS (n : Nat) (ls : List Ln) : List Nat := selfS (standsS n ls) n
def ofS (n : Nat) (ls : List Ln) : List Int := (standsS n ls).map fun (b : Nat) => idxS (b : Int) 0 (intsL (refsS n ls))
/-- Integers that are read, in a row of the call's own. -/
structure IntI (base : Nat) (W : World) (v : Value) (xs : List Int) : Prop where
  own : W.ownsRow base 3 1 v xs.length (i64s xs)
theorem IntI.vi {base W v xs} (H : IntI base W v xs) : Vi W v xs := own_sl H.own
theorem i64s_snoc (xs : List Int) (z : Int) : i64s (xs ++ [z]) = i64s xs ++ [.int .i64 z] := by unfold i64s; rw [List.map_append]; rfl
set_option maxRecDepth 100000 in
set_option maxHeartbeats 4000000 in
theorem refs_o {w : World} {n : Nat} {v vo : Value} {ls : List Ln} {out : List Int} (h : Vl w v ls) (ho : Vi w vo out) (he : outsS (n : Int) ls out = 0) : Calls Tryz.prog 64 #[.agg #[.int .i64 (n : Int), v], vo] w fun e w' =>
    ∃ A l c, e = .returned (.tuple #[.slice A l c, .int .i64 0]) ∧ Below w.heap.size w w' ∧ Vi w' (.slice A l c) (intsL (refsS n (servL ls out))) := by
  have hn6 := (chk_ok (outs_ok he).1).2.1
  have HS := Lib.hid (fun W (hb : Below w.heap.size w W) => stands_o (h.below hb) (ho.below hb) he)
  obtain ⟨A1, l1, c1, rfl⟩ := h.shape
  obtain ⟨A2, l2, c2, rfl⟩ := ho.shape
  obtain ⟨ms, hms⟩ : ∃ ms, ms = servL ls out := ⟨_, rfl⟩
  rw [← hms] at HS ⊢
  clear h ho he hms
  have hsl := standsS_length n ms
  have HRF := Lib.hid (show refsS n ms = selfS (standsS n ms) n from rfl)
  obtain ⟨ps, hps⟩ : ∃ ps, ps = standsS n ms := ⟨_, rfl⟩
  rw [← hps] at HS hsl HRF
  have HSL := Lib.hid hsl
  clear hps hsl
  have HW := Lib.hid (HS.out _ (bal (b0 w) (o := .cells #[.int .i64 (n : Int), .slice A1 l1 c1] 24)))
  obtain ⟨i0, hi, hz0, hz1, hz2⟩ := info_parts' Tryz.info3
  go_enter Tryz.func64, Tryz.ntmps64
  go_wp2_with (go_at_call 102; (with_reducible refine Calls.mono HW.out ?_); rintro e w1 ⟨A, l, c, rfl, hb1, hv1⟩; have HB1 := Lib.hid (bthen (bal (b0 w)) hb1); have hl := hv1.len; rw [intsL_length, HSL.out] at hl; obtain rfl := hl.symm; have HV1 := Lib.hid hv1; clear hb1 hv1)
  go_loopw [4, 17] (fun sv iv wr => ∃ (k : Nat) (A' : Option Addr) (c' : Nat) (xs : List Nat), k ≤ n ∧ iv = .int .i64 (k : Int) ∧ sv = .slice A' xs.length c' ∧ Hid (wr.ownsRow w1.heap.size 3 1 (.slice A' xs.length c') xs.length (i64s (intsL xs))) ∧ Hid (Below w1.heap.size w1 wr) ∧ Hid (xs = selfS ps k)) (fun _ iv _ => n - (intOf iv).toNat)
  case atStart => exact ⟨0, none, 0, [], by omega, rfl, rfl, Lib.hid (World.ownsRow_nil _ _ _ _), Lib.hid (b0 _), Lib.hid rfl⟩
  case round =>
    obtain ⟨k, A', c', xs, hk, rfl, rfl, HO, HBL, HXS⟩ := hrel
    obtain ⟨wo, rfl⟩ : ∃ wo : World, wo = wr := ⟨_, rfl⟩
    have hxl : xs.length ≤ k := by rw [HXS.out]; exact selfS_le ps k
    by_cases hlt : k < n
    · obtain ⟨b, o, hA, hc⟩ := (HV1.out.below HBL.out).at (by rw [intsL_length, HSL.out]; omega)
      subst hA
      have d0 := hc k (by rw [intsL_length, HSL.out]; exact hlt)
      rw [intsL_get] at d0
      have hs := selfS_succ ps k
      rw [← HXS.out] at hs
      obtain ⟨q, hq⟩ : ∃ q, q = ps.getD k 0 := ⟨_, rfl⟩
      rw [← hq] at d0 hs
      have HSS := Lib.hid hs
      clear hc hs hq
      by_cases hqk : q = k
      · subst hqk
        have HA := Lib.hid (row_below HO.out (bal (b0 wo) (o := .cells #[.int .i64 (q : Int)] 3)))
        go_wp2_with (at_builtin; refine wpList_append_1 rfl (.tmp 25) (.tmp 27) 25 rfl w1.heap.size 3 i0 (.int .i64 0) 1 8 Tryz.under25 hi hz0 hz1 hz2 rfl (by decide) _ _ _ rfl HA.out ⟨wo.heap.size, 0, none⟩ 1 1 [.int .i64 (q : Int)] rfl rfl ?c1 ?c2 ?c3 ?c4 ?c5 ?_)
        case c2 => simp [Value.oneCell']
        case c3 => unfold maxLen; omega
        case c4 => omega
        case c5 => have := HBL.out.size; simp; omega
        intro A2 cc w5 hown' hgrow hblk
        have HO5 := Lib.hid hown'
        have HB5 := Lib.hid (show Below w1.heap.size w1 w5 from (bal HBL.out).grown hgrow (by have := HBL.out.size; simp; omega) (fun g hg => (HO.out.lt g hg).1))
        clear hown' hgrow hblk
        go_wp2
        refine ⟨⟨q + 1, A2, cc, xs ++ [q], by omega, val_int (by omega), by rw [List.length_append]; rfl, Lib.hid ?_, HB5, Lib.hid (by rw [HSS.out]; simp)⟩, by simp [intOf]; omega⟩
        rw [List.length_append, List.length_singleton]
        unfold intsL
        rw [List.map_append, show List.map (fun (k : Nat) => (k : Int)) [q] = [(q : Int)] from rfl, i64s_snoc]
        exact HO5.out
      · have HQK := Lib.hid hqk
        have h3 : ¬ ((k : Int) = (q : Int)) := by omega
        have h4 : decide ((k : Int) = (q : Int)) = false := by simpa using h3
        clear hqk
        go_wp2
        refine ⟨⟨k + 1, A', c', xs, by omega, val_int (by omega), rfl, HO, HBL, Lib.hid (by rw [HSS.out, if_neg HQK.out, List.append_nil])⟩, by simp [intOf]; omega⟩
    · obtain rfl : n = k := by omega
      go_wp2
      refine bodyPost_ret (v := .tuple #[.slice A' xs.length c', .int .i64 0]) ?_ rfl ⟨A', _, c', rfl, bthen HB1.out HBL.out, ?_⟩
      · simp [results, Tryz.results64, go_sem]
      · rw [HRF.out, ← HXS.out]
        have := own_sl HO.out
        unfold Vi; rw [intsL_length]; exact this
set_option maxRecDepth 100000 in
set_option maxHeartbeats 4000000 in
theorem of_o {w : World} {n : Nat} {v vo : Value} {ls : List Ln} {out : List Int} (h : Vl w v ls) (ho : Vi w vo out) (he : outsS (n : Int) ls out = 0) : Calls Tryz.prog 39 #[.agg #[.int .i64 (n : Int), v], vo] w fun e w' =>
    ∃ A l c, e = .returned (.tuple #[.slice A l c, .int .i64 0]) ∧ Below w.heap.size w w' ∧ Vi w' (.slice A l c) (ofS n (servL ls out)) := by
  have hn6 := (chk_ok (outs_ok he).1).2.1
  have HS := Lib.hid (fun W (hb : Below w.heap.size w W) => stands_o (h.below hb) (ho.below hb) he)
  have HR := Lib.hid (fun W (hb : Below w.heap.size w W) => refs_o (h.below hb) (ho.below hb) he)
  obtain ⟨A1, l1, c1, rfl⟩ := h.shape
  obtain ⟨A2, l2, c2, rfl⟩ := ho.shape
  obtain ⟨ms, hms⟩ : ∃ ms, ms = servL ls out := ⟨_, rfl⟩
  rw [← hms] at HS HR ⊢
  clear h ho he hms
  have hsl := standsS_length n ms
  obtain ⟨rs, hrs⟩ : ∃ rs, rs = refsS n ms := ⟨_, rfl⟩
  rw [← hrs] at HR
  obtain ⟨ps, hps⟩ : ∃ ps, ps = standsS n ms := ⟨_, rfl⟩
  have HOF := Lib.hid (show ofS n ms = ps.map fun (b : Nat) => idxS (b : Int) 0 (intsL rs) by rw [hps, hrs]; rfl)
  rw [← hps] at HS hsl
  have HSL := Lib.hid hsl
  clear hps hsl hrs
  have HW := Lib.hid (HS.out _ (bal (b0 w) (o := .cells #[.int .i64 (n : Int), .slice A1 l1 c1] 24)))
  have HW2 := Lib.hid (fun W (hb : Below (w.heap.size + 1) (w.alloc (.cells #[.int .i64 (n : Int), .slice A1 l1 c1] 24)) W) => HR.out W ((bal (b0 w)).trans (hb.mono (by omega))))
  obtain ⟨i0, hi, hz0, hz1, hz2⟩ := info_parts' Tryz.info3
  go_enter Tryz.func39, Tryz.ntmps39
  go_wp2_with (first
    | (go_at_call 102; (with_reducible refine Calls.mono HW.out ?_); rintro e w1 ⟨A, l, c, rfl, hb1, hv1⟩; have B1 := Bx.step (Bx.refl (n := w.heap.size + 1) (w.alloc (Obj.cells #[.int .i64 (n : Int), .slice A1 l1 c1] 24)) (by simp)) hb1; have k1 := B1.cell; have f1 := B1.frozen; have HX2 := Lib.hid (HW2.out w1 B1.b); have HB1 := Lib.hid (bthen (bal (b0 w)) hb1); have hl := hv1.len; rw [intsL_length, HSL.out] at hl; obtain rfl := hl.symm; have HV1 := Lib.hid hv1; clear hb1 hv1 B1)
    | (go_at_call 64; (with_reducible refine Calls.mono HX2.out ?_); rintro e w2 ⟨AR, lR, cR, rfl, hb2, hv2⟩; have HB2 := Lib.hid (bthen HB1.out hb2); have HV2 := Lib.hid (HV1.out.below hb2); have HVR := Lib.hid hv2; clear hb2 hv2))
  have HIX := Lib.hid (fun W (hb : Below w2.heap.size w2 W) (z : Int) => index_c (HVR.out.below hb) z)
  go_loopw [4, 25] (fun sv iv wr => ∃ (k : Nat) (A' : Option Addr) (c' : Nat) (xs : List Int), k ≤ n ∧ iv = .int .i64 (k : Int) ∧ xs.length = k ∧ sv = .slice A' k c' ∧ Hid (wr.ownsRow w2.heap.size 3 1 (.slice A' k c') k (i64s xs)) ∧ Hid (Below w2.heap.size w2 wr) ∧ Hid (xs = (ps.take k).map fun (b : Nat) => idxS (b : Int) 0 (intsL rs))) (fun _ iv _ => n - (intOf iv).toNat)
  case atStart => exact ⟨0, none, 0, [], by omega, rfl, rfl, rfl, Lib.hid (World.ownsRow_nil _ _ _ _), Lib.hid (b0 _), Lib.hid rfl⟩
  case round =>
    obtain ⟨k, A', c', xs, hk, rfl, hxl, rfl, HO, HBL, HXS⟩ := hrel
    obtain ⟨wo, rfl⟩ : ∃ wo : World, wo = wr := ⟨_, rfl⟩
    have HXL := Lib.hid hxl
    clear hxl
    by_cases hlt : k < n
    · obtain ⟨b, o, hA, hc⟩ := (HV2.out.below HBL.out).at (by rw [intsL_length, HSL.out]; omega)
      subst hA
      have d0 := hc k (by rw [intsL_length, HSL.out]; exact hlt)
      rw [intsL_get] at d0
      have hpk : k < ps.length := by rw [HSL.out]; exact hlt
      have hs : (ps.take (k + 1)).map (fun (b : Nat) => idxS (b : Int) 0 (intsL rs)) = xs ++ [idxS ((ps.getD k 0 : Nat) : Int) 0 (intsL rs)] := by
        rw [List.take_succ_eq_append_getElem hpk, List.map_append, HXS.out, List.getD_eq_getElem?_getD, List.getElem?_eq_getElem hpk]; rfl
      obtain ⟨q, hq⟩ : ∃ q, q = ps.getD k 0 := ⟨_, rfl⟩
      rw [← hq] at d0 hs
      have HI := Lib.hid (HIX.out wo HBL.out (q : Int))
      obtain ⟨z, hz⟩ : ∃ z, z = idxS (q : Int) 0 (intsL rs) := ⟨_, rfl⟩
      rw [← hz] at hs HI
      have HSS := Lib.hid hs
      clear hc hs hq hz
      have HA := Lib.hid (row_below HO.out (bal (b0 wo) (o := .cells #[.int .i64 z] 3)))
      go_wp2_with (first
        | (go_at_call 103; (with_reducible refine Calls.mono HI.out ?_); rintro e w3 ⟨rfl, rfl⟩)
        | (at_builtin; refine wpList_append_1 rfl (.tmp 29) (.tmp 33) 25 rfl w2.heap.size 3 i0 (.int .i64 0) 1 8 Tryz.under25 hi hz0 hz1 hz2 rfl (by decide) _ _ _ rfl HA.out ⟨_, 0, none⟩ 1 1 [.int .i64 z] rfl rfl ?c1 ?c2 ?c3 ?c4 ?c5 ?_))
      case c1 =>
        intro j u hu
        rw [addr_add0, Nat.zero_add, World.cell?_alloc_new]; simpa using hu
      case c2 => intro u hu; simp at hu; subst hu; simp [Value.oneCell']
      case c3 => unfold maxLen; omega
      case c4 => omega
      case c5 => have := HBL.out.size; simp; omega
      intro A2 cc w5 hown' hgrow hblk
      have HO5 := Lib.hid hown'
      have HB5 := Lib.hid (show Below w2.heap.size w2 w5 from (bal HBL.out).grown hgrow (by have := HBL.out.size; simp; omega) (fun g hg => (HO.out.lt g hg).1))
      clear hown' hgrow hblk
      go_wp2
      refine ⟨⟨k + 1, A2, cc, xs ++ [z], by omega, val_int (by omega), by rw [List.length_append, HXL.out]; rfl, rfl, Lib.hid ?_, HB5, Lib.hid HSS.out.symm⟩, by simp [intOf]; omega⟩
      rw [i64s_snoc]
      exact HO5.out
    · obtain rfl : n = k := by omega
      go_wp2
      refine bodyPost_ret (v := .tuple #[.slice A' n c', .int .i64 0]) ?_ rfl ⟨A', _, c', rfl, bthen HB2.out HBL.out, ?_⟩
      · simp [results, Tryz.results39, go_sem]
      · have := own_sl HO.out
        rw [HOF.out, show ps = ps.take n by rw [List.take_of_length_le (by rw [HSL.out]; exact Nat.le_refl _)], ← HXS.out]
        unfold Vi; rw [HXL.out]; exact this
end Go.Proofs.YtdkfdamihnieiaaGreat
end
section
/- Package solve, part 4: all, Inverse. -/
open Go Go.RowKit Go.Shelf
namespace Go.Proofs.YtdkfdamihnieiaaGreat
open Go.Proofs
/-- The first n columns, one after the other. -/
def allS (m : List (List Rat)) (n : Nat) : List (List Rat) × List Nat := (List.range n).foldl (fun s k => colS s.1 s.2 k) (m, [])
theorem allS_succ (m : List (List Rat)) (n : Nat) : allS m (n + 1) = colS (allS m n).1 (allS m n).2 n := by unfold allS; rw [List.range_succ, List.foldl_append]; rfl
theorem allS_length (m : List (List Rat)) : ∀ n, (allS m n).1.length = m.length := by
  intro n
  induction n with
  | zero => rfl
  | succ n ih => rw [allS_succ, colS_length, ih]
theorem colS_piv (m p k) : (colS m p k).2.length ≤ p.length + 1 := by
  unfold colS
  split
  · simp
  · simp
theorem allS_piv (m : List (List Rat)) : ∀ n, (allS m n).2.length ≤ n := by
  intro n
  induction n with
  | zero => exact Nat.le_refl _
  | succ n ih => rw [allS_succ]; have := colS_piv (allS m n).1 (allS m n).2 n; omega
theorem colS_width {m C} (h : widthL m C) (p k) : widthL (colS m p k).1 C := by
  unfold colS
  split
  · exact h
  · rename_i a ha
    obtain ⟨h1, h2, h3⟩ := findI_some ha
    have hd : p.length < m.length := by omega
    exact elimR_width (scaleR_width (swapR_width h (by omega) hd) (by rw [swapR_length]; exact hd)) (by rw [scaleR_length, swapR_length]; exact hd) _ (by rw [scaleR_length, swapR_length]; exact Nat.le_refl _)
theorem allS_width {m C} (h : widthL m C) : ∀ n, widthL (allS m n).1 C := by
  intro n
  induction n with
  | zero => exact h
  | succ n ih => rw [allS_succ]; exact colS_width ih _ _
theorem colS_bnd {m B} (h : bndL m B) (hB : 2 ≤ B) (p k) : bndL (colS m p k).1 (5 * B) := by
  unfold colS
  split
  · exact h.mono (by omega)
  · have hs := swapR_bnd h (a := ‹Nat›) (d := p.length)
    generalize swapR m _ p.length = M at hs ⊢
    refine bndL.mono (elimR_bnd (A := B) (C := 2 * B + 1) (fun j => scaleR_bnd hs (by omega) _ j) (fun i hi j => ?_) (by omega) m.length).2.2 (by omega)
    unfold scaleR atM
    rw [getD_setL, if_neg (fun e => hi e.1.symm)]
    exact hs i j
theorem allS_bnd {m B} (h : bndL m B) (hB : 2 ≤ B) : ∀ n, bndL (allS m n).1 (5 ^ n * B) := by
  intro n
  induction n with
  | zero => simpa [allS] using h
  | succ n ih =>
    rw [allS_succ]
    have h1 : 2 ≤ 5 ^ n * B := Nat.le_trans hB (Nat.le_mul_of_pos_left _ (Nat.pow_pos (by omega)))
    have := colS_bnd ih h1 (allS m n).2 n
    rw [Nat.pow_succ, show 5 ^ n * 5 * B = 5 * (5 ^ n * B) by rw [Nat.mul_comm (5 ^ n) 5, Nat.mul_assoc]]
    exact this
set_option maxHeartbeats 1000000 in
theorem wall_c {base n0 C B g n : Nat} {w : World} {m : List (List Rat)} {sv pv : Value} {vs : List Value} (H : WorkI base n0 w g m [] sv pv vs) (hn0 : n0 ≤ base) (hw : widthL m C) (hn : n ≤ C) (hm0 : 0 < m.length) (hm1 : m.length ≤ 1024) (hC : C ≤ 1024) (hbn : bndL m B) (hB2 : 2 ≤ B) (hB : 5 ^ n * B + 10 ≤ 100000000) :
    Calls Tryz.prog 159 #[.pointer (some ⟨g, 0, none⟩), .int .i64 (n : Int)] w fun e w' => e = .returned (.pointer (some ⟨g, 0, none⟩)) ∧ Below base w w' ∧ w.heap.size ≤ w'.heap.size ∧ ∃ sv' pv' vs', WorkI base n0 w' g (allS m n).1 (allS m n).2 sv' pv' vs' := by
  have HC := Lib.hid (fun k (hk : k < n) => (⟨allS_width hw k, allS_bnd hbn hB2 k, allS_piv m k, allS_length m k, (by
    have h1 : 5 ^ (k + 1) ≤ 5 ^ n := Nat.pow_le_pow_right (by omega) hk
    have h2 := Nat.mul_le_mul_right B h1
    rw [Nat.pow_succ, Nat.mul_comm (5 ^ k) 5, Nat.mul_assoc] at h2
    omega), Nat.le_trans (by omega : 1 ≤ 2) (Nat.le_trans hB2 (Nat.le_mul_of_pos_left _ (Nat.pow_pos (by omega))))⟩ : widthL (allS m k).1 C ∧ bndL (allS m k).1 (5 ^ k * B) ∧ (allS m k).2.length ≤ k ∧ (allS m k).1.length = m.length ∧ 5 * (5 ^ k * B) + 10 ≤ 100000000 ∧ 0 < 5 ^ k * B))
  have HH := Lib.hid H
  clear H hw hbn hB
  go_enter Tryz.func159, Tryz.ntmps159
  go_wp2
  go_loopw [7] (fun iv wr => ∃ (k : Nat) (sv' pv' : Value) (vs' : List Value), k ≤ n ∧ iv = .int .i64 (k : Int) ∧ Hid (WorkI base n0 wr g (allS m k).1 (allS m k).2 sv' pv' vs') ∧ Hid (Below base w wr) ∧ Hid (w.heap.size ≤ wr.heap.size)) (fun iv _ => n - (intOf iv).toNat)
  case atStart => exact ⟨0, _, _, _, by omega, rfl, HH, Lib.hid (Below.refl _ _), Lib.hid (Nat.le_refl _)⟩
  case round =>
    obtain ⟨k, sv', pv', vs', hk, rfl, HW, HB1, HS1⟩ := hrel
    by_cases hlt : k < n
    · have HX := Lib.hid (by
        obtain ⟨a1, a2, a3, a4, a5, a6⟩ := HC.out k hlt
        exact column_c (k := k) HW.out hn0 a1 (by omega) (by omega) (by omega) (by omega) (by omega) a2 a6 a5)
      go_wp2_with (go_at_call 225; (with_reducible refine Calls.mono HX.out ?_); rintro e w1 ⟨⟨v, rfl⟩, hb1, hs1, sv2, pv2, vs2, hw2⟩; have HW2 := Lib.hid hw2; have HB2 := Lib.hid hb1; have HS2 := Lib.hid hs1; clear hw2 hb1 hs1)
      refine ⟨⟨k + 1, sv2, pv2, vs2, by omega, val_int (by omega), Lib.hid (by rw [allS_succ]; exact HW2.out), Lib.hid (HB1.out.trans HB2.out), Lib.hid (Nat.le_trans HS1.out HS2.out)⟩, by simp [intOf]; omega⟩
    · obtain rfl : k = n := by omega
      go_wp2
      go_ret
      exact ⟨rfl, HB1.out, HS1.out, sv', pv', vs', HW.out⟩
end Go.Proofs.YtdkfdamihnieiaaGreat
end
section
/- Package solve, part 5: Inverse. -/
open Go Go.RowKit Go.Shelf
namespace Go.Proofs.YtdkfdamihnieiaaGreat
open Go.Proofs
/-- The matrix beside the unit matrix. -/
def wideI (m : List (List Rat)) : List (List Rat) := gridL (fun i k => if k < m.length then atM m i k else atM (idL m.length) i (k - m.length)) m.length (m.length + m.length)
def invR (m : List (List Rat)) : List (List Rat) × List Nat := allS (wideI m) m.length
def invL (m : List (List Rat)) : List (List Rat) := (invR m).1.map (fun r => r.drop m.length)
theorem gridL_idem (R : Nat → Nat → Rat) (r c : Nat) : gridL (atM (gridL R r c)) r c = gridL R r c := by
  conv => lhs; unfold gridL
  conv => rhs; unfold gridL
  refine List.map_congr_left (fun i hi => List.map_congr_left (fun k hk => ?_))
  rw [List.mem_range] at hi hk
  exact atM_grid R r c i k hi hk
theorem colsL_id {n : Nat} (hn : 0 < n) : colsL (idL n) = n := by
  have : idL n = gridL (fun i k => (unitL n i).getD k 0) n n := by
    unfold idL gridL
    refine List.map_congr_left (fun i _ => ?_)
    refine List.ext_getElem (by simp [unitL]) (fun k h1 h2 => ?_)
    rw [List.getElem_map, List.getElem_range]
    show _ = (unitL n i).getD k 0
    rw [List.getD_eq_getElem?_getD, List.getElem?_eq_getElem h1]; rfl
  rw [this, colsL_grid hn]
theorem unit_qB (n k j : Nat) : qB ((unitL n k).getD j 0) 1 := by
  unfold unitL
  rw [getD_set]
  split
  · exact qB_one (by omega)
  · rw [List.getD_eq_getElem?_getD, List.getElem?_replicate]
    split
    · exact qB_zero (by omega)
    · exact qB_zero (by omega)
theorem id_qB (n i j : Nat) : qB (atM (idL n) i j) 1 := by
  unfold atM idL
  rw [List.getD_eq_getElem?_getD (l := List.map _ _), List.getElem?_map]
  by_cases h : i < n
  · rw [List.getElem?_range h]; exact unit_qB n i j
  · rw [List.getElem?_eq_none (by simp; omega)]
    rw [List.getD_eq_getElem?_getD]; simp; exact qB_zero (by omega)
theorem grid_bnd {R : Nat → Nat → Rat} {r c B : Nat} (h : ∀ i k, qB (R i k) B) (hB : 0 < B) : bndL (gridL R r c) B := by
  intro i k
  by_cases hi : i < r
  · by_cases hk : k < c
    · rw [atM_grid R r c i k hi hk]; exact h i k
    · unfold atM
      rw [gridL_rows R r c i hi, List.getD_eq_getElem?_getD, List.getElem?_eq_none (by simp; omega)]; exact qB_zero hB
  · unfold atM
    rw [List.getD_eq_getElem?_getD (l := gridL R r c), List.getElem?_eq_none (by rw [gridL_length]; omega)]; exact qB_zero hB
theorem grid_width (R : Nat → Nat → Rat) (r c : Nat) : widthL (gridL R r c) c := by
  intro i hi
  rw [gridL_length] at hi
  rw [gridL_rows R r c i hi]; simp
theorem bndL_rows {m : List (List Rat)} {B : Nat} (h : rowsB m B) (hB : 0 < B) : bndL m B := by
  intro i k
  unfold atM
  rw [List.getD_eq_getElem?_getD (l := m)]
  by_cases hi : i < m.length
  · rw [List.getElem?_eq_getElem hi, Option.getD_some, List.getD_eq_getElem?_getD]
    by_cases hk : k < (m[i]).length
    · rw [List.getElem?_eq_getElem hk]; exact h _ (List.getElem_mem hi) _ (List.getElem_mem hk)
    · rw [List.getElem?_eq_none (by omega)]; exact qB_zero hB
  · rw [List.getElem?_eq_none (by omega)]; rw [List.getD_eq_getElem?_getD]; simp; exact qB_zero hB
theorem wideI_bnd {m : List (List Rat)} {B : Nat} (h : bndL m B) (hB : 0 < B) : bndL (wideI m) B := grid_bnd (fun i k => by
  split
  · exact h i k
  · exact (id_qB _ _ _).mono hB) hB
/-- The rest of a row. -/
theorem Vq.drop {n0 E w b o l c qs} (h : Vq n0 E w (.slice (some ⟨b, o, none⟩) l c) qs) {k : Nat} (hk : k ≤ qs.length) : Vq n0 E w (.slice (some ⟨b, o + k * 4, none⟩) (l - k) (c - k)) (qs.drop k) := by
  have hl := h.len_eq
  have hr := h.rv
  refine ⟨_, c - k, by rw [List.length_drop, hl], ?_, ?_, fun h0 => ?_⟩
  · rw [List.length_drop]; have := hr.cap; omega
  · have := hr.lim; omega
  · rw [List.length_drop] at h0
    obtain ⟨b', o', e, hok, hc⟩ := hr.cells (by omega)
    injection e with e
    injection e with e1 e2 _
    subst e1 e2
    refine ⟨b, o + k * 4, rfl, hok, fun j hj => ?_⟩
    rw [List.length_drop] at hj
    obtain ⟨x, hx, hcs⟩ := hc (k + j) (by omega)
    refine ⟨x, ?_, fun i hi => ?_⟩
    · have : (qs.drop k).getD j 0 = qs.getD (k + j) 0 := by
        rw [List.getD_eq_getElem?_getD, List.getD_eq_getElem?_getD, List.getElem?_drop]
      rw [this]; exact hx
    · rw [← hcs i hi]; congr 2; omega
/-- A matrix out of a row of the call's own, its rows read at the world where the row was begun. -/
theorem own_vm {n0 base : Nat} {E : Elt} (hE : Stable E) {w0 W : World} {sv : Value} {us : List Value} {m : List (List Rat)} {n : Nat} (hb : Below w0.heap.size w0 W) (hown : W.ownsRow base 26 1 sv n us) (hl : us.length = m.length) (hel : ∀ i (hi : i < us.length), Vq n0 E w0 us[i] (m.getD i [])) : Vm n0 E W sv m := by
  have hn : n = m.length := by have := hown.1; omega
  subst hn
  rcases hown.2 with ⟨rfl, h0⟩ | ⟨g, cap, cur, rfl, hg, hh, h1, h2, h3, h4⟩
  · exact ⟨none, 0, by rw [h0], by omega, by unfold maxLen; omega, fun h => by omega⟩
  · refine ⟨_, cap, rfl, h1, h2, fun _ => ⟨g, 0, rfl, fun j hj => ?_⟩⟩
    have hj2 : j < us.length := by omega
    refine ⟨us[j], ?_, (hel j hj2).below hE hb⟩
    rw [Nat.zero_add, cell_of_row W g _ cur 26 (0, 0) hh]
    have h5 : us[j]? = some us[j] := List.getElem?_eq_getElem hj2
    have h6 : (List.take (m.length * 1) cur.toList)[j]? = us[j]? := by rw [h4]
    rw [List.getElem?_take_of_lt (by omega), h5] at h6
    simpa using h6
theorem wideI_length (m : List (List Rat)) : (wideI m).length = m.length := by unfold wideI; rw [gridL_length]
theorem wideI_cols {m : List (List Rat)} (hm0 : 0 < m.length) : colsL (wideI m) = m.length + m.length := by unfold wideI; rw [colsL_grid hm0]
theorem wideI_width (m : List (List Rat)) : widthL (wideI m) (m.length + m.length) := grid_width _ _ _
theorem wideI_self {m : List (List Rat)} (hm0 : 0 < m.length) : gridL (atM (wideI m)) (wideI m).length (colsL (wideI m)) = wideI m := by
  rw [wideI_length, wideI_cols hm0]; unfold wideI; rw [gridL_idem]
theorem invR_length (m : List (List Rat)) : (invR m).1.length = m.length := by unfold invR; rw [allS_length, wideI_length]
theorem invR_width (m : List (List Rat)) : widthL (invR m).1 (m.length + m.length) := allS_width (wideI_width m) _
/-- A slice's rest. -/
def dropV (n : Nat) : Value → Value
  | .slice (some ⟨b, o, s⟩) l c => .slice (some ⟨b, o + n * 4, s⟩) (l - n) (c - n)
  | v => v
theorem concat_w {n0 B : Nat} {W : World} {v : Value} {m : List (List Rat)} {A : Option Addr} {l c : Nat} {rs : List Row1} {b0 : Nat} (h : Vm n0 (rq B) W v m) (hsq : colsL m = m.length) (hm0 : 0 < m.length) (hm1 : m.length ≤ 256) (hB2 : 2 ≤ B) (hB : B ≤ 100000000) (hg : Grid b0 W (.slice A l c) (idL m.length) rs) : Calls Tryz.prog 177 #[v, .slice A l c] W (RetG W (wideI m)) := by
  have hid : Vm n0 (rq B) W (.slice A l c) (idL m.length) := by
    refine Vm.rq ((hg.mat (n0 := n0) (fun i => ?_)).vm) (fun r hr q hq => ?_)
    · unfold idL
      rw [List.getD_eq_getElem?_getD, List.getElem?_map]
      by_cases hi : i < m.length
      · rw [List.getElem?_range hi]; simp [unitL]; omega
      · rw [List.getElem?_eq_none (by simp; omega)]; simp
    · exact bndL.rows (m := idL m.length) (B := B) (fun i j => (id_qB _ i j).mono (by omega)) r hr q hq
  have := concat_c h hid (by simp [idL]) (by omega) (by rw [colsL_id hm0, hsq]; omega) (by omega) (by omega)
  simp only [hsq, colsL_id hm0] at this
  exact this
theorem begin_w {n0 B b0 : Nat} {W : World} {m : List (List Rat)} {A : Option Addr} {l c : Nat} {rs : List Row1} (hbn : bndL m B) (hm0 : 0 < m.length) (hm1 : m.length ≤ 256) (hB2 : 2 ≤ B) (hB : B ≤ 100000000) (hg : Grid b0 W (.slice A l c) (wideI m) rs) : Calls Tryz.prog 157 #[.slice A l c] W fun e w' => ∃ g sv vs, e = .returned (.pointer (some ⟨g, 0, none⟩)) ∧ Below W.heap.size W w' ∧ WorkI W.heap.size n0 w' g (wideI m) [] sv (.slice none 0 0) vs := by
  have hv : Vm n0 (rq B) W (.slice A l c) (wideI m) := by
    refine Vm.rq ((hg.mat (n0 := n0) (fun i => ?_)).vm) (bndL.rows (wideI_bnd hbn (by omega)))
    by_cases hi : i < (wideI m).length
    · rw [wideI_width m i hi]; omega
    · rw [List.getD_eq_getElem?_getD, List.getElem?_eq_none (by omega)]; simp
  have := begin_c hv (by rw [wideI_length]; omega) (by rw [wideI_cols hm0]; omega) (by omega) (by omega)
  rw [wideI_self hm0] at this
  exact this
set_option maxRecDepth 100000 in
set_option maxHeartbeats 4000000 in
theorem inverse_c {n0 B : Nat} {w : World} {v : Value} {m : List (List Rat)} (h : Vm n0 (rq B) w v m) (hn0 : n0 ≤ w.heap.size) (hsq : colsL m = m.length) (hm0 : 0 < m.length) (hm1 : m.length ≤ 256) (hB2 : 2 ≤ B) (hB : 5 ^ m.length * B + 10 ≤ 100000000) :
    Calls Tryz.prog 105 #[v] w fun e w' => Below w.heap.size w w' ∧ ((invR m).2.length < m.length → e = .returned (.tuple #[.slice none 0 0, .int .i64 8])) ∧ (m.length ≤ (invR m).2.length → ∃ A l c, e = .returned (.tuple #[.slice A l c, .int .i64 0]) ∧ Vm n0 cq w' (.slice A l c) (invL m)) := by
  have hBs : B ≤ 100000000 := by
    have := Nat.le_mul_of_pos_left B (Nat.pow_pos (n := m.length) (by omega : 0 < 5)); omega
  have hq : bndL m B := h.qb (by omega)
  have HC := Lib.hid (cols_c h)
  rw [hsq] at HC
  have HI := Lib.hid (identity_c w m.length (by omega))
  have HK := Lib.hid (fun W A l c rs b0 (hb : Below w.heap.size w W) (hg : Grid b0 W (.slice A l c) (idL m.length) rs) => concat_w (h.below (rq_stable B) hb) hsq hm0 hm1 hB2 hBs hg)
  have HG := Lib.hid (fun W A l c rs b0 (hg : Grid b0 W (.slice A l c) (wideI m) rs) => begin_w (n0 := n0) hq hm0 hm1 hB2 hBs hg)
  have HA := Lib.hid (fun base W g sv pv vs (hw : WorkI base n0 W g (wideI m) [] sv pv vs) (hb : n0 ≤ base) => wall_c (C := m.length + m.length) (n := m.length) hw hb (wideI_width m) (by omega) (by rw [wideI_length]; exact hm0) (by rw [wideI_length]; omega) (by omega) (wideI_bnd hq (by omega)) hB2 hB)
  obtain ⟨A0, l0, c0, rfl⟩ := h.shape
  obtain rfl := h.len
  have HP := Lib.hid (show (allS (wideI m) m.length).2 = (invR m).2 from rfl)
  have HR1 := Lib.hid (show (allS (wideI m) m.length).1 = (invR m).1 from rfl)
  have HL1 := Lib.hid (invR_length m)
  have HW1 := Lib.hid (invR_width m)
  have HM0 := Lib.hid hm0
  have HN0 := Lib.hid hn0
  clear h hsq hq hB hBs hn0
  obtain ⟨R, hR⟩ : ∃ R, R = invR m := ⟨_, rfl⟩
  have HRR := Lib.hid hR
  rw [← hR] at HP HR1 HL1 HW1 ⊢
  clear hR
  obtain ⟨Q, hQ⟩ : ∃ Q, Q = R.2.length := ⟨_, rfl⟩
  have HQ := Lib.hid hQ
  rw [← hQ]
  clear hQ
  by_cases hp : Q < m.length
  all_goals
    go_enter Tryz.func105, Tryz.ntmps105
    go_wp2_with (first
      | (go_at_call 156; (with_reducible refine Calls.mono HC.out ?_); rintro e w1 ⟨rfl, rfl⟩)
      | (go_at_call 178; (with_reducible refine Calls.mono HI.out ?_); rintro e w1 ⟨A1, l1, c1, rs1, rfl, hb1, hg1⟩; have HK2 := Lib.hid (HK.out w1 A1 l1 c1 rs1 _ hb1 hg1); have HB1 := Lib.hid hb1; clear hb1 hg1)
      | (go_at_call 177; (with_reducible refine Calls.mono HK2.out ?_); rintro e w2 ⟨A2, l2, c2, rs2, rfl, hb2, hg2⟩; have HBW2 := Lib.hid (bthen HB1.out hb2); have HG2 := Lib.hid (HG.out w2 A2 l2 c2 rs2 _ hg2); clear hb2 hg2)
      | (go_at_call 157; (with_reducible refine Calls.mono HG2.out ?_); rintro e w3 ⟨g, sv, vs, rfl, hb3, hw3⟩; have HBW3 := Lib.hid (bthen HBW2.out hb3); have HA3 := Lib.hid (HA.out _ _ _ _ _ _ hw3 (Nat.le_trans HN0.out HBW2.out.size)); clear hb3 hw3)
      | (go_at_call 159; (with_reducible refine Calls.mono HA3.out ?_); rintro e w4 ⟨rfl, hb4, hs4, sv4, pv4, vs4, hw4⟩; rw [HP.out, HR1.out] at hw4; have HBW4 := Lib.hid (HBW3.out.trans (hb4.mono HBW2.out.size)); have HSW4 := Lib.hid (Nat.le_trans HBW3.out.size hs4); obtain ⟨go, cap, Ap, cp, rfl, rfl, hgo, hne, hglt, hgl2, hrows⟩ := hw4.reads (by rw [HL1.out]; exact HM0.out); have d0 := hw4.blk.cell 0; have d1 := hw4.blk.cell 1; simp only [List.getElem?_cons_zero, List.getElem?_cons_succ] at d0 d1; rw [← HQ.out] at d1; rw [HL1.out] at d0; have HW4 := Lib.hid hw4; have HRW := Lib.hid hrows; clear hw4 hrows hb4 hs4))
  · refine bodyPost_ret (v := .tuple #[.slice none 0 0, .int .i64 8]) ?_ rfl ⟨HBW4.out, fun _ => rfl, fun h => by omega⟩
    simp [results, Tryz.results105, go_sem]
  · obtain ⟨i0, hi, hz0, hz1, hz2⟩ := info_parts' Tryz.info26
    have hml : vs4.length = m.length := by rw [HW4.out.mat.len]; exact HL1.out
    have HUS := Lib.hid (show ∀ i (hi : i < vs4.length), ∃ b o c, vs4[i] = .slice (some ⟨b, o, none⟩) (m.length + m.length) c ∧ m.length + m.length ≤ c ∧ Vq n0 cq w4 (dropV m.length vs4[i]) ((invL m).getD i []) from fun i hi => by
      have hi1 : i < R.1.length := by rw [HL1.out]; omega
      obtain ⟨hi2, b, o, c, n, mm, x, y, e, _⟩ := HW4.out.elem HW1.out (i := i) (k := 0) hi1 (by omega)
      have hv := HW4.out.mat.el i hi2
      have hv2 : Vq n0 cq w4 vs4[i] (R.1.getD i []) := hv.imp (fun v q _ h => isQc.any h)
      have hc : m.length + m.length ≤ c := by
        rw [e] at hv2
        have h1 := hv2.rv.cap
        rw [HW1.out i hi1] at h1; exact h1
      refine ⟨b, o, c, e, hc, ?_⟩
      rw [e] at hv2 ⊢
      have h3 := hv2.drop (k := m.length) (by rw [HW1.out i hi1]; omega)
      have h4 : (invL m).getD i [] = (R.1.getD i []).drop m.length := by
        unfold invL
        rw [← HRR.out, List.getD_eq_getElem?_getD, List.getElem?_map, List.getD_eq_getElem?_getD, List.getElem?_eq_getElem hi1]; rfl
      rw [h4]
      exact h3)
    obtain ⟨us, hus⟩ : ∃ us, us = vs4.map (dropV m.length) := ⟨_, rfl⟩
    have HUSE := Lib.hid hus
    have HUL := Lib.hid (show us.length = m.length by rw [hus, List.length_map]; exact hml)
    clear hus
    go_loopw [6, 34] (fun sv iv wr => ∃ (k : Nat) (A' : Option Addr) (c' : Nat), k ≤ m.length ∧ iv = .int .i64 (k : Int) ∧ sv = .slice A' k c' ∧ Hid (wr.ownsRow w4.heap.size 26 1 (.slice A' k c') k (us.take k)) ∧ Hid (Below w4.heap.size w4 wr)) (fun _ iv _ => m.length - (intOf iv).toNat)
    case atStart => exact ⟨0, none, 0, by omega, rfl, rfl, Lib.hid (World.ownsRow_nil _ _ _ _), Lib.hid (b0 _)⟩
    case round =>
      obtain ⟨k, A', c', hk, rfl, rfl, HO, HBL⟩ := hrel
      by_cases hlt : k < m.length
      · obtain ⟨wo, rfl⟩ : ∃ wo : World, wo = wr := ⟨_, rfl⟩
        obtain ⟨b, o, c, hv, hc, _⟩ := HUS.out k (by omega)
        have x0 := (HBL.out.cell (p := ⟨go, k, none⟩) hglt).trans (HRW.out k (by omega))
        rw [hv] at x0
        have Hu := Lib.hid (show us.take (k + 1) = us.take k ++ [.slice (some ⟨b, o + m.length * 4, none⟩) m.length (c - m.length)] by
          have hk2 : k < us.length := by rw [HUL.out]; exact hlt
          rw [List.take_succ_eq_append_getElem hk2]
          have := HUSE.out
          subst this
          rw [List.getElem_map, hv]
          simp only [dropV]
          rw [show m.length + m.length - m.length = m.length by omega])
        have hc1 : m.length < c := by omega
        have hm0' := HM0.out
        clear hv
        obtain ⟨nv, hnv⟩ : ∃ nv, nv = Value.slice (some ⟨b, o + m.length * 4, none⟩) m.length (c - m.length) := ⟨_, rfl⟩
        have HOA := Lib.hid (row_below HO.out (bal (b0 wo) (o := .cells #[.slice (some ⟨b, o + m.length * 4, none⟩) m.length (c - m.length)] 26)))
        have HNV := Lib.hid hnv
        clear hnv
        go_wp2_with (at_builtin; refine wpList_append_1 rfl (.tmp 38) (.tmp 42) 56 rfl w4.heap.size 26 i0 (.slice none 0 0) 1 24 Tryz.under56 hi hz0 hz1 hz2 rfl (by decide) _ _ _ rfl HOA.out ⟨wo.heap.size, 0, none⟩ 1 1 [.slice (some ⟨b, o + m.length * 4, none⟩) m.length (c - m.length)] rfl rfl ?c1 ?c2 ?c3 ?c4 ?c5 ?_)
        case c1 =>
          intro j u hu
          rw [addr_add0, Nat.zero_add, World.cell?_alloc_new]; simpa using hu
        case c2 => intro u hu; simp at hu; subst hu; simp [Value.oneCell']
        case c3 => unfold maxLen; omega
        case c4 => omega
        case c5 => have := HBL.out.size; simp; omega
        intro A2 cc w5 hown' hgrow hblk
        have HO5 := Lib.hid hown'
        have HB5 := Lib.hid (show Below w4.heap.size w4 w5 from (bal HBL.out).grown hgrow (by have := HBL.out.size; simp; omega) (fun g hg => (HO.out.lt g hg).1))
        clear hown' hgrow hblk
        go_wp2
        refine ⟨⟨k + 1, A2, cc, by omega, val_int (by omega), rfl, Lib.hid (by rw [Hu.out]; exact HO5.out), HB5⟩, by simp [intOf]; omega⟩
      · obtain rfl : k = m.length := by omega
        go_wp2
        refine bodyPost_ret (v := .tuple #[.slice A' m.length c', .int .i64 0]) ?_ rfl ⟨HBW4.out.trans (HBL.out.mono HSW4.out), fun h => absurd h hp, fun _ => ⟨A', m.length, c', rfl, ?_⟩⟩
        · simp [results, Tryz.results105, go_sem]
        · have hO := HO.out
          rw [List.take_of_length_le (by rw [HUL.out]; exact Nat.le_refl _)] at hO
          refine own_vm cq_stable HBL.out hO (by rw [HUL.out]; unfold invL; rw [List.length_map, ← HRR.out, HL1.out]) (fun i hi => ?_)
          have := HUSE.out
          subst this
          rw [List.getElem_map]
          obtain ⟨b, o, c, _, _, hv⟩ := HUS.out i (by simpa using hi)
          exact hv
end Go.Proofs.YtdkfdamihnieiaaGreat
end
