/- right.wrong, right.within. -/
import Derived.Test.YtdkfdamihnieiaaGreatG30
set_option linter.unusedSimpArgs false
set_option linter.unusedVariables false
section
open Go Go.RowKit Go.Shelf
namespace Go.Proofs.YtdkfdamihnieiaaGreat
open Go.Proofs
attribute [local go_sem] Oper.semAt_some wide_fn wide_depth
def wrongS (b : Int) (ls : List Ln) (out : List Int) (rs : List Rt) : Int := if outsS b ls out ≠ 0 then outsS b ls out else rchk b rs
theorem outs_chk {b : Int} {ls : List Ln} {out : List Int} (h : chkS b ls ≠ 0) : outsS b ls out = chkS b ls := by unfold outsS; rw [if_pos h]
set_option maxRecDepth 100000 in
set_option maxHeartbeats 4000000 in
theorem wrong_c {w : World} {b : Int} {v vo vr : Value} {ls : List Ln} {out : List Int} {rs : List Rt} (h : Vl w v ls) (ho : Vi w vo out) (hr : Vr w vr rs) : Calls Tryz.prog 100 #[.agg #[.int .i64 b, v], vo, vr] w (RetO w (.int .i64 (wrongS b ls out rs))) := by
  have HC := Lib.hid (fun W (hb : Below w.heap.size w W) => check_c (b := b) (h.below hb))
  have HO := Lib.hid (fun W (hb : Below w.heap.size w W) => outs_c (b := b) (h.below hb) (ho.below hb))
  have HR := Lib.hid (fun W (hb : Below w.heap.size w W) => rcheck_c (hr.below hb) b)
  obtain ⟨A1, l1, c1, rfl⟩ := h.shape
  obtain ⟨A2, l2, c2, rfl⟩ := ho.shape
  obtain ⟨A3, l3, c3, rfl⟩ := hr.shape
  have HW := Lib.hid (show wrongS b ls out rs = if outsS b ls out ≠ 0 then outsS b ls out else rchk b rs from rfl)
  have HOC := Lib.hid (@outs_chk b ls out)
  obtain ⟨z, hz⟩ : ∃ z, z = wrongS b ls out rs := ⟨_, rfl⟩
  obtain ⟨e1, he1⟩ : ∃ e1, e1 = chkS b ls := ⟨_, rfl⟩
  obtain ⟨e2, he2⟩ : ∃ e2, e2 = outsS b ls out := ⟨_, rfl⟩
  obtain ⟨e3, he3⟩ : ∃ e3, e3 = rchk b rs := ⟨_, rfl⟩
  rw [← he1] at HC HOC
  rw [← he2] at HO HW HOC
  rw [← he3] at HR HW
  rw [← hz] at HW ⊢
  clear h ho hr hz he1 he2 he3
  have HC0 := Lib.hid (HC.out _ (bal (b0 w) (o := .cells #[.int .i64 b, .slice A1 l1 c1] 24)))
  have hw0 : w.heap.size < (w.alloc (.cells #[.int .i64 b, .slice A1 l1 c1] 24)).heap.size := by simp
  by_cases h1 : e1 = 0
  · subst h1
    by_cases h2 : e2 = 0
    · subst h2
      have hze : z = e3 := by rw [HW.out]; simp
      subst hze
      clear HOC
      go_enter Tryz.func100, Tryz.ntmps100
      go_wp2_with (first
        | (go_at_call 52; (with_reducible refine Calls.mono HC0.out ?_); rintro e w1 ⟨rfl, hb1⟩; have HB1 := Lib.hid (bthen (bal (b0 w)) hb1); have q1 := (Blk.new w [.int .i64 b, .slice A1 l1 c1] 24 rfl).below hb1; have Q1 := Lib.hid q1; obtain ⟨x0, x1⟩ := q1.c2; have s1 := q1.lt; have HO1 := Lib.hid (HO.out _ HB1.out); clear hb1 q1)
        | (go_at_call 68; (with_reducible refine Calls.mono HO1.out ?_); rintro e w2 ⟨rfl, hb2⟩; have HB2 := Lib.hid (bthen HB1.out hb2); have q2 := Q1.out.below hb2; clear x0 x1; obtain ⟨x0, x1⟩ := q2.c2; have s2 := q2.lt; have HR2 := Lib.hid (HR.out _ HB2.out); clear hb2 q2)
        | (go_at_call 174; (with_reducible refine Calls.mono HR2.out ?_); rintro e w3 ⟨⟨z0, rfl⟩, hb3⟩; have HB3 := Lib.hid (bthen HB2.out hb3); clear hb3))
      go_ret
      exact ⟨rfl, HB3.out⟩
    · have hze : z = e2 := by rw [HW.out, if_pos h2]
      subst hze
      clear HOC
      go_enter Tryz.func100, Tryz.ntmps100
      go_wp2_with (first
        | (go_at_call 52; (with_reducible refine Calls.mono HC0.out ?_); rintro e w1 ⟨rfl, hb1⟩; have HB1 := Lib.hid (bthen (bal (b0 w)) hb1); have q1 := (Blk.new w [.int .i64 b, .slice A1 l1 c1] 24 rfl).below hb1; have Q1 := Lib.hid q1; obtain ⟨x0, x1⟩ := q1.c2; have s1 := q1.lt; have HO1 := Lib.hid (HO.out _ HB1.out); clear hb1 q1)
        | (go_at_call 68; (with_reducible refine Calls.mono HO1.out ?_); rintro e w2 ⟨rfl, hb2⟩; have HB2 := Lib.hid (bthen HB1.out hb2); clear hb2))
      go_ret
      exact ⟨rfl, HB2.out⟩
  · have hze : z = e1 := by
      have := HOC.out h1
      rw [HW.out, this, if_pos h1]
    subst hze
    clear HOC HW
    go_enter Tryz.func100, Tryz.ntmps100
    go_wp2_with (go_at_call 52; (with_reducible refine Calls.mono HC0.out ?_); rintro e w1 ⟨rfl, hb1⟩; have HB1 := Lib.hid (bthen (bal (b0 w)) hb1); clear hb1)
    go_ret
    exact ⟨rfl, HB1.out⟩
def withinS (xs : List Int) (rs : List Rt) : Bool := rs.all fun r => xs.getD r.f.toNat 0 == xs.getD r.t.toNat 0
set_option maxRecDepth 100000 in
set_option maxHeartbeats 4000000 in
theorem within_c {w : World} {n : Nat} {v vr : Value} {xs : List Int} {rs : List Rt} (h : Vi w v xs) (hr : Vr w vr rs) (hx : xs.length = n) (hin : ∀ x ∈ rs, 0 ≤ x.f ∧ x.f < n ∧ 0 ≤ x.t ∧ x.t < n) : Calls Tryz.prog 101 #[v, vr] w (RetO w (.bool (withinS xs rs))) := by
  have HI := Lib.hid h
  have HR := Lib.hid hr
  obtain ⟨A1, l1, c1, rfl⟩ := h.shape
  obtain ⟨A3, l3, c3, rfl⟩ := hr.shape
  have e1 := h.len
  have e2 := hr.len
  rw [hx] at e1
  obtain rfl : n = l1 := e1.symm
  subst e2
  have hm := hr.lim
  have hm2 := h.lim
  rw [hx] at hm2
  have HIN := Lib.hid hin
  have HXL := Lib.hid hx
  obtain ⟨z, hz⟩ : ∃ z, z = withinS xs rs := ⟨_, rfl⟩
  have HZ := Lib.hid (show z = rs.all fun r => xs.getD r.f.toNat 0 == xs.getD r.t.toNat 0 from hz)
  rw [← hz]
  clear h hr hin hx hz
  go_enter Tryz.func101, Tryz.ntmps101
  go_wp2
  go_loopg [9] rs.length (fun gh iv wr => ∃ k : Nat, gh = rs.length - k ∧ k ≤ rs.length ∧ iv = .int .i64 (k : Int) ∧ Below w.heap.size w wr ∧ Hid ((rs.take k).all (fun r => xs.getD r.f.toNat 0 == xs.getD r.t.toNat 0) = true))
  case atStart => exact ⟨0, rfl, by omega, rfl, b0 _, Lib.hid (by simp)⟩
  case round =>
    obtain ⟨k, rfl, hk, rfl, hbl, HA⟩ := hrel
    obtain ⟨wo, rfl⟩ : ∃ wo : World, wo = wr := ⟨_, rfl⟩
    by_cases hlt : k < rs.length
    · obtain ⟨br, or, hA3, hc⟩ := (HR.out.below hbl).at (by omega)
      subst hA3
      obtain ⟨d0, d1, d2⟩ := hc k hlt
      have hmem : rs.getD k Rt.zero ∈ rs := by rw [List.getD_eq_getElem?_getD, List.getElem?_eq_getElem hlt]; exact List.getElem_mem hlt
      have htk : rs.take (k + 1) = rs.take k ++ [rs.getD k Rt.zero] := by
        rw [List.take_succ_eq_append_getElem hlt, List.getD_eq_getElem?_getD, List.getElem?_eq_getElem hlt]; rfl
      obtain ⟨x, hxx⟩ : ∃ x, x = rs.getD k Rt.zero := ⟨_, rfl⟩
      rw [← hxx] at d0 d1 d2 hmem htk
      obtain ⟨f0, fn, t0, tn⟩ := HIN.out x hmem
      obtain ⟨xf, xt, xq⟩ := x
      simp only at f0 fn t0 tn d0 d1 d2
      obtain ⟨f, rfl⟩ := Int.eq_ofNat_of_zero_le f0
      obtain ⟨t, rfl⟩ := Int.eq_ofNat_of_zero_le t0
      obtain ⟨bi, oi, hA1, hci⟩ := (HI.out.below hbl).at (by rw [HXL.out]; omega)
      subst hA1
      have y0 := hci f (by rw [HXL.out]; omega)
      have y1 := hci t (by rw [HXL.out]; omega)
      have hbr : br < wo.heap.size := World.block_lt_of_cell? wo _ d0
      have hbi : bi < wo.heap.size := World.block_lt_of_cell? wo _ y0
      obtain ⟨p, hp⟩ : ∃ p, p = xs.getD f 0 := ⟨_, rfl⟩
      obtain ⟨q, hq⟩ : ∃ q, q = xs.getD t 0 := ⟨_, rfl⟩
      rw [← hp] at y0
      rw [← hq] at y1
      have HE := Lib.hid (show (rs.take (k + 1)).all (fun r => xs.getD r.f.toNat 0 == xs.getD r.t.toNat 0) = (p == q) by
        rw [htk, List.all_append, HA.out, hp, hq]; simp)
      have HMEM := Lib.hid hmem
      have HBX := Lib.hid (Blk.new wo [.int .i64 (f : Int), .int .i64 (t : Int), .int .i64 xq] 92 rfl)
      have HPQ := Lib.hid (show p = xs.getD (Int.toNat (f : Int)) 0 ∧ q = xs.getD (Int.toNat (t : Int)) 0 from ⟨by simpa using hp, by simpa using hq⟩)
      have HY := Lib.hid (show wo.cell? ⟨bi, oi + f, none⟩ = some (.int .i64 p) ∧ wo.cell? ⟨bi, oi + t, none⟩ = some (.int .i64 q) from ⟨y0, y1⟩)
      have HBL := Lib.hid hbl
      clear hc hci hmem htk hxx hp hq y0 y1 hbl
      go_wp2
      refine (wpIn_wide (n := 10)).1 ?_
      refine wpIn_region_Y (by kernel_rfl) (by kernel_rfl) 11 0 rfl (by kernel_rfl) (fun u => { tmps := List.toArray ((Value.slice (some { block := bi, off := oi }) n c1) :: (Value.slice (some { block := br, off := or }) rs.length c3) :: undef :: undef :: u4 :: undef :: (Value.pointer (some { block := wo.heap.size, off := 0 })) :: (Value.slice (some { block := br, off := or }) rs.length c3) :: (Value.int IntKind.i64 ↑rs.length) :: (Value.int IntKind.i64 ↑k) :: (Value.bool true) :: (Value.pointer (some { block := br, off := or + k * 3 })) :: (Value.agg #[Value.int IntKind.i64 ↑f, Value.int IntKind.i64 ↑t, Value.int IntKind.i64 xq]) :: (u 0) :: (u 1) :: (u 2) :: (u 3) :: (u 4) :: (u 5) :: (u 6) :: (u 7) :: (u 8) :: (u 9) :: (u 10) :: u24 :: []), defers := [] }) (fun k => #[u13, u14, u15, u16, u17, u18, u19, u20, u21, u22, u23].getD k undef) rfl (fun W1 W2 => Below W1.heap.size W1 W2) (fun _ => Below.refl _ _) (fun h1 h2 => bthen h1 h2)
        (fun j9 v W1 => match j9 with
          | 0 => v = Value.slice (some ⟨bi, oi, none⟩) n c1
          | 1 => v = Value.pointer (some ⟨wo.heap.size, 0, none⟩)
          | 2 => v = Value.int .i64 (f : Int)
          | 3 => v = Value.pointer (some ⟨bi, oi + f, none⟩)
          | 4 => v = Value.int .i64 p
          | 5 => v = Value.slice (some ⟨bi, oi, none⟩) n c1
          | 6 => v = Value.pointer (some ⟨wo.heap.size, 1, none⟩)
          | 7 => v = Value.int .i64 (t : Int)
          | 8 => v = Value.pointer (some ⟨bi, oi + t, none⟩)
          | 9 => v = Value.int .i64 q
          | 10 => v = Value.bool (p != q)
          | _ => True) ?hY ?step ?fin
      case hY =>
        intro k v W1 W2 h hb
        match k, h with
        | 0, h => exact h
        | 1, h => exact h
        | 2, h => exact h
        | 3, h => exact h
        | 4, h => exact h
        | 5, h => exact h
        | 6, h => exact h
        | 7, h => exact h
        | 8, h => exact h
        | 9, h => exact h
        | 10, h => exact h
        | k + 11, h => trivial
      case step =>
        intro u W' j o hj ho hR hpre
        have hbw : Below (wo.alloc (.cells #[.int .i64 (f : Int), .int .i64 (t : Int), .int .i64 xq] 92)).heap.size (wo.alloc (.cells #[.int .i64 (f : Int), .int .i64 (t : Int), .int .i64 xq] 92)) W' := bthen (bdr (b0 (wo.alloc (.cells #[.int .i64 (f : Int), .int .i64 (t : Int), .int .i64 xq] 92)))) hR
        have x0 := (HBX.out.below hbw).cell 0
        have x1 := (HBX.out.below hbw).cell 1
        simp only [List.getElem?_cons_zero, List.getElem?_cons_succ] at x0 x1
        obtain ⟨y0, y1⟩ := HY.out
        replace y0 := ((bthen (bal (b0 wo)) hbw).cell (p := ⟨bi, oi + f, none⟩) hbi).trans y0
        replace y1 := ((bthen (bal (b0 wo)) hbw).cell (p := ⟨bi, oi + t, none⟩) hbi).trans y1
        obtain rfl | rfl | rfl | rfl | rfl | rfl | rfl | rfl | rfl | rfl | rfl : j = 0 ∨ j = 1 ∨ j = 2 ∨ j = 3 ∨ j = 4 ∨ j = 5 ∨ j = 6 ∨ j = 7 ∨ j = 8 ∨ j = 9 ∨ j = 10 := by omega
        · simp at ho
          subst ho
          simp [Region.binds] at hpre
          refine wpOpIn_step rfl (fun K' hK => ?_)
          simp only [Region.wanted]
          have HK := Lib.hid hK
          clear hK
          gi_wp2
          exact HK.out _ _ ⟨Value.slice (some ⟨bi, oi, none⟩) n c1, by simp [upd, undef, *], Below.refl _ _, rfl⟩
        · simp at ho
          subst ho
          simp [Region.binds] at hpre
          refine wpOpIn_step rfl (fun K' hK => ?_)
          simp only [Region.wanted]
          have HK := Lib.hid hK
          clear hK
          gi_wp2
          exact HK.out _ _ ⟨Value.pointer (some ⟨wo.heap.size, 0, none⟩), by simp [upd, undef, *], Below.refl _ _, rfl⟩
        · simp at ho
          subst ho
          simp [Region.binds] at hpre
          refine wpOpIn_step rfl (fun K' hK => ?_)
          simp only [Region.wanted]
          have HK := Lib.hid hK
          clear hK
          gi_wp2
          exact HK.out _ _ ⟨Value.int .i64 (f : Int), by simp [upd, undef, *], Below.refl _ _, rfl⟩
        · simp at ho
          subst ho
          simp [Region.binds] at hpre
          refine wpOpIn_step rfl (fun K' hK => ?_)
          simp only [Region.wanted]
          have HK := Lib.hid hK
          clear hK
          gi_wp2
          exact HK.out _ _ ⟨Value.pointer (some ⟨bi, oi + f, none⟩), by simp [upd, undef, *], Below.refl _ _, rfl⟩
        · simp at ho
          subst ho
          simp [Region.binds] at hpre
          refine wpOpIn_step rfl (fun K' hK => ?_)
          simp only [Region.wanted]
          have HK := Lib.hid hK
          clear hK
          gi_wp2
          exact HK.out _ _ ⟨Value.int .i64 p, by simp [upd, undef, *], Below.refl _ _, rfl⟩
        · simp at ho
          subst ho
          simp [Region.binds] at hpre
          refine wpOpIn_step rfl (fun K' hK => ?_)
          simp only [Region.wanted]
          have HK := Lib.hid hK
          clear hK
          gi_wp2
          exact HK.out _ _ ⟨Value.slice (some ⟨bi, oi, none⟩) n c1, by simp [upd, undef, *], Below.refl _ _, rfl⟩
        · simp at ho
          subst ho
          simp [Region.binds] at hpre
          refine wpOpIn_step rfl (fun K' hK => ?_)
          simp only [Region.wanted]
          have HK := Lib.hid hK
          clear hK
          gi_wp2
          exact HK.out _ _ ⟨Value.pointer (some ⟨wo.heap.size, 1, none⟩), by simp [upd, undef, *], Below.refl _ _, rfl⟩
        · simp at ho
          subst ho
          simp [Region.binds] at hpre
          refine wpOpIn_step rfl (fun K' hK => ?_)
          simp only [Region.wanted]
          have HK := Lib.hid hK
          clear hK
          gi_wp2
          exact HK.out _ _ ⟨Value.int .i64 (t : Int), by simp [upd, undef, *], Below.refl _ _, rfl⟩
        · simp at ho
          subst ho
          simp [Region.binds] at hpre
          refine wpOpIn_step rfl (fun K' hK => ?_)
          simp only [Region.wanted]
          have HK := Lib.hid hK
          clear hK
          gi_wp2
          exact HK.out _ _ ⟨Value.pointer (some ⟨bi, oi + t, none⟩), by simp [upd, undef, *], Below.refl _ _, rfl⟩
        · simp at ho
          subst ho
          simp [Region.binds] at hpre
          refine wpOpIn_step rfl (fun K' hK => ?_)
          simp only [Region.wanted]
          have HK := Lib.hid hK
          clear hK
          gi_wp2
          exact HK.out _ _ ⟨Value.int .i64 q, by simp [upd, undef, *], Below.refl _ _, rfl⟩
        · simp at ho
          subst ho
          simp [Region.binds] at hpre
          refine wpOpIn_step rfl (fun K' hK => ?_)
          simp only [Region.wanted]
          have HK := Lib.hid hK
          clear hK
          gi_wp2
          exact HK.out _ _ ⟨Value.bool (p != q), by simp [upd, undef, *], Below.refl _ _, rfl⟩
      case fin =>
        intro u W' hR hY
        have hbw : Below (wo.alloc (.cells #[.int .i64 (f : Int), .int .i64 (t : Int), .int .i64 xq] 92)).heap.size (wo.alloc (.cells #[.int .i64 (f : Int), .int .i64 (t : Int), .int .i64 xq] 92)) W' := bthen (bdr (b0 (wo.alloc (.cells #[.int .i64 (f : Int), .int .i64 (t : Int), .int .i64 xq] 92)))) hR
        have g10 : u 10 = Value.bool (p != q) := hY 10 (by omega)
        have HBW := Lib.hid (bthen (bthen HBL.out (bal (b0 wo))) hbw)
        clear hY hR hbw
        refine wpTail_end ?_
        rw [g10]
        by_cases hpq : p = q
        · have hb : (p != q) = false := by simpa using hpq
          rw [hb]
          have HPE := Lib.hid hpq
          clear hpq hb
          go_wp2
          go_roundg (rs.length - (k + 1))
          case rel => exact ⟨k + 1, rfl, by omega, val_int (by omega), HBW.out, Lib.hid (by rw [HE.out, HPE.out]; simp)⟩
          case measure => omega
        · have hb : (p != q) = true := by simpa using hpq
          rw [hb]
          have hzf : z = false := by
            rw [HZ.out, Bool.eq_false_iff]
            intro hall
            have := List.all_eq_true.1 hall _ HMEM.out
            simp only [← HPQ.out.1, ← HPQ.out.2, beq_iff_eq] at this
            exact hpq this
          subst hzf
          clear hpq hb
          go_wp2
          go_ret
          exact ⟨rfl, HBW.out⟩
    · obtain rfl : k = rs.length := by omega
      have hall := HA.out
      rw [List.take_length, ← HZ.out] at hall
      subst hall
      go_wp2
      go_ret
      exact ⟨rfl, hbl⟩
end Go.Proofs.YtdkfdamihnieiaaGreat
end
section
/- right.Flows. -/
open Go Go.RowKit Go.Shelf
namespace Go.Proofs.YtdkfdamihnieiaaGreat
open Go.Proofs
attribute [local go_sem] Oper.semAt_some wide_fn wide_depth
def flowsL (n : Nat) (ls : List Ln) (out : List Int) (rs : List Rt) : List Rat := (facM n ls out).map fun row => dotq row (inL n rs)
def singS (n : Nat) (ls : List Ln) (out : List Int) : Prop := (invR (tabF n ls out)).2.length < n
instance (n ls out) : Decidable (singS n ls out) := inferInstanceAs (Decidable (_ < _))
def flowsE (b : Int) (ls : List Ln) (out : List Int) (rs : List Rt) : Int :=
  if wrongS b ls out rs ≠ 0 then wrongS b ls out rs else if withinS (ofS b.toNat (servL ls out)) rs = false then 10 else if singS b.toNat ls out then 8 else 0
theorem rchk_ok {b : Int} {rs : List Rt} (h : rchk b rs = 0) : rs.length ≤ 8 ∧ ∀ x ∈ rs, 0 ≤ x.f ∧ x.f < b ∧ 0 ≤ x.t ∧ x.t < b ∧ 0 ≤ x.q ∧ x.q ≤ 1000000 := by
  unfold rchk at h
  split at h
  · omega
  · split at h
    · rename_i h2 h3
      refine ⟨by omega, fun x hx => ?_⟩
      have := List.all_eq_true.1 h3 x hx
      simp only [rok, isB, Bool.and_eq_true, decide_eq_true_eq] at this
      omega
    · omega
theorem wrong_ok {b : Int} {ls : List Ln} {out : List Int} {rs : List Rt} (h : wrongS b ls out rs = 0) : outsS b ls out = 0 ∧ rchk b rs = 0 := by
  unfold wrongS at h
  by_cases h1 : outsS b ls out = 0
  · rw [if_neg (by simpa using h1)] at h; exact ⟨h1, h⟩
  · rw [if_pos h1] at h; exact absurd h h1
theorem inv_bnd {n : Nat} {ls : List Ln} {out : List Int} (h : outsS (n : Int) ls out = 0) : n ≤ 6 ∧ 1 ≤ n ∧ ls.length ≤ 10 ∧ (∀ l ∈ ls, lnIn n l) ∧ bndL (invL (tabF n ls out)) 4000000 ∧ (invL (tabF n ls out)).length = n := by
  obtain ⟨hchk, _⟩ := outs_ok h
  obtain ⟨hn1, hn6, hll, hall⟩ := chk_ok hchk
  have htb := tableS_ok n (refsS n (servL ls out)) (servL ls out) (fun l hl => lnIn_of hall (servL_mem hl))
  have hsl := servL_length ls out
  have hn : n ≤ 6 := by omega
  refine ⟨hn, by omega, hll, fun l hl => lnIn_of hall hl, ?_, ?_⟩
  · have h201 : bndL (tabF n ls out) 201 := htb.2.2.mono (by omega)
    refine (invL_bnd h201 (by omega)).mono ?_
    rw [show (tabF n ls out).length = n from htb.1]
    have := pow5 hn; omega
  · rw [invL_length]; exact htb.1
theorem facQ_bnd {n : Nat} {out : List Int} {refs : List Nat} {i b B : Nat} {l : Ln} {qa : List Rat} (hl : lnIn n l) (hq : ∀ j, qB (qa.getD j 0) B) : qB (facQ out refs i b l qa) (B + B + 3) := by
  unfold facQ
  split
  · exact qB_zero (by omega)
  · have h1 := qB_add (hq l.f.toNat) (qB_neg (hq l.t.toNat))
    rw [← Rat.sub_eq_add_neg] at h1
    exact (qB_dv h1 (qB_int (z := l.x) (by have := hl.2.2.2.2.1; omega) (by have := hl.2.2.2.2.2; omega))).mono (by omega)
theorem facM_ok {n : Nat} {ls : List Ln} {out : List Int} (h : outsS (n : Int) ls out = 0) : (facM n ls out).length = ls.length ∧ widthL (facM n ls out) n ∧ bndL (facM n ls out) 8000003 := by
  obtain ⟨hn6, hn1, hll, hlin, hib, hil⟩ := inv_bnd h
  unfold facM
  refine ⟨turnS_length _ _, ?_, turnS_bnd (fun b i => ?_) (by omega)⟩
  · have := turnS_width ((List.range n).map (colF n ls out (invL (tabF n ls out)))) ls.length
    rw [List.length_map, List.length_range] at this
    exact this
  · unfold atM
    by_cases hb : b < n
    · rw [List.getD_eq_getElem?_getD (l := List.map _ _), List.getElem?_map, List.getElem?_range hb]
      simp only [Option.map_some, Option.getD_some]
      unfold colF
      rw [List.getD_eq_getElem?_getD, List.getElem?_map]
      by_cases hi : i < ls.length
      · rw [List.getElem?_range hi]
        simp only [Option.map_some, Option.getD_some]
        refine (facQ_bnd (n := n) (hlin _ ?_) (fun j => turnS_bnd (C := n) hib (by omega) b j)).mono (by omega)
        rw [List.getD_eq_getElem?_getD, List.getElem?_eq_getElem hi]; exact List.getElem_mem hi
      · rw [List.getElem?_eq_none (by simp; omega)]; exact qB_zero (by omega)
    · rw [List.getD_eq_getElem?_getD (l := List.map _ _), List.getElem?_eq_none (by simp; omega)]
      rw [List.getD_eq_getElem?_getD]; simp; exact qB_zero (by omega)
theorem flowsL_length (n : Nat) (ls : List Ln) (out : List Int) (rs : List Rt) : (flowsL n ls out rs).length = ls.length := by unfold flowsL facM; rw [List.length_map, turnS_length]
end Go.Proofs.YtdkfdamihnieiaaGreat
end
section
/- right.Flows. -/
open Go Go.RowKit Go.Shelf
namespace Go.Proofs.YtdkfdamihnieiaaGreat
open Go.Proofs
attribute [local go_sem] Oper.semAt_some wide_fn wide_depth
theorem dotq_bnd {a b : List Rat} {A B N : Nat} (ha : ∀ k, qB (a.getD k 0) A) (hb : ∀ k, qB (b.getD k 0) B) (hn : max a.length b.length ≤ N) : qB (dotq a b) (N * (A + B + 1) + 1) := by
  have := dotL_size (R := fun k => a.getD k 0 * b.getD k 0) (B := A + B) (fun k => qB_mul (ha k) (hb k)) (List.range (max a.length b.length))
  rw [List.length_range] at this
  exact this.mono (by have := Nat.mul_le_mul_right (A + B + 1) hn; omega)
theorem rowsB_row {m : List (List Rat)} {B i : Nat} (h : bndL m B) : ∀ q ∈ m.getD i [], qB q B := by
  intro q hq
  obtain ⟨t, ht, rfl⟩ := List.getElem_of_mem hq
  have := h i t
  unfold atM at this
  rw [List.getD_eq_getElem?_getD (l := m.getD i []), List.getElem?_eq_getElem ht] at this
  exact this
theorem flowsL_bnd {n : Nat} {ls : List Ln} {out : List Int} {rs : List Rt} (h : outsS (n : Int) ls out = 0) (hr : ∀ x ∈ rs, 0 ≤ x.q ∧ x.q ≤ 1000000) (hl : rs.length ≤ 12) : ∀ k, qB ((flowsL n ls out rs).getD k 0) 50000000 := by
  obtain ⟨h1, h2, h3⟩ := facM_ok h
  obtain ⟨hn6, _⟩ := inv_bnd h
  intro k
  unfold flowsL
  rw [List.getD_eq_getElem?_getD, List.getElem?_map]
  by_cases hk : k < (facM n ls out).length
  · rw [List.getElem?_eq_getElem hk]
    simp only [Option.map_some, Option.getD_some]
    have hw := h2 k hk
    have hb := h3 k
    unfold atM at hb
    rw [List.getD_eq_getElem?_getD, List.getElem?_eq_getElem hk, Option.getD_some] at hw hb
    exact (dotq_bnd (A := 8000003) (B := 73) (N := 6) hb (fun j => (inL_qB n rs (fun x hx => by have := hr x hx; omega) j).mono (by omega)) (by rw [hw, inL_length]; omega)).mono (by omega)
  · rw [List.getElem?_eq_none (by omega)]; exact qB_zero (by omega)
set_option maxRecDepth 100000 in
set_option maxHeartbeats 4000000 in
theorem flows_c {n0 : Nat} {w : World} {b : Int} {v vo vr : Value} {ls : List Ln} {out : List Int} {rs : List Rt} (h : Vl w v ls) (ho : Vi w vo out) (hr : Vr w vr rs) (hn0 : n0 ≤ w.heap.size) : Calls Tryz.prog 38 #[.agg #[.int .i64 b, v], vo, vr] w fun e w' =>
    Below w.heap.size w w' ∧ (flowsE b ls out rs ≠ 0 → e = .returned (.tuple #[.slice none 0 0, .int .i64 (flowsE b ls out rs)])) ∧ (flowsE b ls out rs = 0 → ∃ A l c, e = .returned (.tuple #[.slice A l c, .int .i64 0]) ∧ Vq n0 cq w' (.slice A l c) (flowsL b.toNat ls out rs)) := by
  have HWR := Lib.hid (fun W (hb : Below w.heap.size w W) => wrong_c (b := b) (h.below hb) (ho.below hb) (hr.below hb))
  have HL := Lib.hid h
  have HO := Lib.hid ho
  have HR := Lib.hid hr
  obtain ⟨A1, l1, c1, rfl⟩ := h.shape
  obtain ⟨A2, l2, c2, rfl⟩ := ho.shape
  obtain ⟨A3, l3, c3, rfl⟩ := hr.shape
  have HE := Lib.hid (show flowsE b ls out rs = if wrongS b ls out rs ≠ 0 then wrongS b ls out rs else if withinS (ofS b.toNat (servL ls out)) rs = false then 10 else if singS b.toNat ls out then 8 else 0 from rfl)
  obtain ⟨z, hz⟩ : ∃ z, z = flowsE b ls out rs := ⟨_, rfl⟩
  rw [← hz] at HE ⊢
  have HW0 := Lib.hid (HWR.out _ (bal (b0 w) (o := .cells #[.int .i64 b, .slice A1 l1 c1] 24)))
  have HBX := Lib.hid (Blk.new w [.int .i64 b, .slice A1 l1 c1] 24 rfl)
  clear h ho hr hz HWR
  by_cases h1 : wrongS b ls out rs = 0
  · obtain ⟨hou, hrc⟩ := wrong_ok h1
    obtain ⟨hr8, hrin⟩ := rchk_ok hrc
    obtain ⟨n, rfl⟩ : ∃ n : Nat, b = (n : Int) := ⟨b.toNat, by have := chk_ok (outs_ok hou).1; omega⟩
    rw [h1] at HW0
    have HOF := Lib.hid (fun W (hb : Below w.heap.size w W) => of_o (HL.out.below hb) (HO.out.below hb) hou)
    have HFC := Lib.hid (fun W (hb : Below w.heap.size w W) => factors_c (n0 := n0) (HL.out.below hb) (HO.out.below hb) hou (Nat.le_trans hn0 hb.size))
    have HOU := Lib.hid hou
    have HRI := Lib.hid hrin
    have HEE := Lib.hid (show z = if withinS (ofS n (servL ls out)) rs = false then 10 else if singS n ls out then 8 else 0 from by rw [HE.out, if_neg (by simpa using h1)]; rfl)
    simp only [Int.toNat_natCast]
    obtain ⟨hn6, hn1, hll, _, _, _⟩ := inv_bnd hou
    have hofl : (ofS n (servL ls out)).length = n := by unfold ofS; rw [List.length_map, standsS_length]
    obtain ⟨xs, hxs⟩ : ∃ xs, xs = ofS n (servL ls out) := ⟨_, rfl⟩
    rw [← hxs] at HOF HEE hofl
    have HXL := Lib.hid hofl
    have HWI := Lib.hid (fun W sv (hb : Below w.heap.size w W) (hv : Vi W sv xs) => within_c (n := n) hv (HR.out.below hb) hofl (fun x hx => by have := hrin x hx; omega))
    obtain ⟨q, hq⟩ : ∃ q, q = withinS xs rs := ⟨_, rfl⟩
    rw [← hq] at HWI HEE
    clear hou hrc hrin h1 HE hxs hofl hq
    cases q with
    | false =>
      have hz10 : z = 10 := by rw [HEE.out, if_pos rfl]
      subst hz10
      go_enter Tryz.func38, Tryz.ntmps38
      go_wp2_with (first
        | (go_at_call 100; (with_reducible refine Calls.mono HW0.out ?_); rintro e w1 ⟨rfl, hb1⟩; have HB1 := Lib.hid (bthen (bal (b0 w)) hb1); have q1 := HBX.out.below hb1; have Q1 := Lib.hid q1; obtain ⟨x0, x1⟩ := q1.c2; have s1 := q1.lt; have HO1 := Lib.hid (HOF.out _ HB1.out); clear hb1 q1)
        | (go_at_call 39; (with_reducible refine Calls.mono HO1.out ?_); rintro e w2 ⟨AO, lO, cO, rfl, hb2, hv2⟩; have HB2 := Lib.hid (bthen HB1.out hb2); have HW2 := Lib.hid (HWI.out w2 _ HB2.out hv2); clear hb2 hv2 x0 x1)
        | (go_at_call 101; (with_reducible refine Calls.mono HW2.out ?_); rintro e w3 ⟨rfl, hb3⟩; have HB3 := Lib.hid (bthen HB2.out hb3); clear hb3))
      refine bodyPost_ret (v := .tuple #[.slice none 0 0, .int .i64 10]) ?_ rfl ⟨HB3.out, fun _ => rfl, fun h => absurd h (by omega)⟩
      simp [results, Tryz.results38, go_sem]
    | true =>
      by_cases hsg : singS n ls out
      · have hz8 : z = 8 := by rw [HEE.out, if_neg (by simp), if_pos hsg]
        subst hz8
        go_enter Tryz.func38, Tryz.ntmps38
        go_wp2_with (first
          | (go_at_call 100; (with_reducible refine Calls.mono HW0.out ?_); rintro e w1 ⟨rfl, hb1⟩; have HB1 := Lib.hid (bthen (bal (b0 w)) hb1); have q1 := HBX.out.below hb1; have Q1 := Lib.hid q1; obtain ⟨x0, x1⟩ := q1.c2; have s1 := q1.lt; have HO1 := Lib.hid (HOF.out _ HB1.out); clear hb1 q1)
          | (go_at_call 39; (with_reducible refine Calls.mono HO1.out ?_); rintro e w2 ⟨AO, lO, cO, rfl, hb2, hv2⟩; have HB2 := Lib.hid (bthen HB1.out hb2); have Q2 := Lib.hid (Q1.out.below hb2); have HW2 := Lib.hid (HWI.out w2 _ HB2.out hv2); clear hb2 hv2 x0 x1)
          | (go_at_call 101; (with_reducible refine Calls.mono HW2.out ?_); rintro e w3 ⟨rfl, hb3⟩; have HB3 := Lib.hid (bthen HB2.out hb3); have Q3 := Lib.hid (Q2.out.below hb3); obtain ⟨x0, x1⟩ := Q3.out.c2; have s3 := Q3.out.lt; have HF3 := Lib.hid (HFC.out _ HB3.out); clear hb3)
          | (go_at_call 40; (with_reducible refine Calls.mono HF3.out ?_); rintro e w4 ⟨hb4, hn4, _⟩; obtain rfl := hn4 hsg; have HB4 := Lib.hid (bthen HB3.out hb4); clear hb4 hn4))
        refine bodyPost_ret (v := .tuple #[.slice none 0 0, .int .i64 8]) ?_ rfl ⟨HB4.out, fun _ => rfl, fun h => absurd h (by omega)⟩
        simp [results, Tryz.results38, go_sem]
      · have hz0 : z = 0 := by rw [HEE.out, if_neg (by simp), if_neg hsg]
        subst hz0
        have hns : n ≤ (invR (tabF n ls out)).2.length := by unfold singS at hsg; omega
        have HIN := Lib.hid (fun W (hb : Below w.heap.size w W) => in_c (n0 := n0) (HR.out.below hb) n hn6 (fun x hx => by have := HRI.out x hx; omega) (by omega))
        clear hsg
        go_enter Tryz.func38, Tryz.ntmps38
        go_wp2_with (first
          | (go_at_call 100; (with_reducible refine Calls.mono HW0.out ?_); rintro e w1 ⟨rfl, hb1⟩; have HB1 := Lib.hid (bthen (bal (b0 w)) hb1); have q1 := HBX.out.below hb1; have Q1 := Lib.hid q1; obtain ⟨x0, x1⟩ := q1.c2; have s1 := q1.lt; have HO1 := Lib.hid (HOF.out _ HB1.out); clear hb1 q1)
          | (go_at_call 39; (with_reducible refine Calls.mono HO1.out ?_); rintro e w2 ⟨AO, lO, cO, rfl, hb2, hv2⟩; have HB2 := Lib.hid (bthen HB1.out hb2); have Q2 := Lib.hid (Q1.out.below hb2); have HW2 := Lib.hid (HWI.out w2 _ HB2.out hv2); clear hb2 hv2 x0 x1)
          | (go_at_call 101; (with_reducible refine Calls.mono HW2.out ?_); rintro e w3 ⟨rfl, hb3⟩; have HB3 := Lib.hid (bthen HB2.out hb3); have Q3 := Lib.hid (Q2.out.below hb3); obtain ⟨x0, x1⟩ := Q3.out.c2; have s3 := Q3.out.lt; have HF3 := Lib.hid (HFC.out _ HB3.out); clear hb3)
          | (go_at_call 40; (with_reducible refine Calls.mono HF3.out ?_); rintro e w4 ⟨hb4, _, hy4⟩; obtain ⟨AF, lF, cF, rfl, hm4⟩ := hy4 hns; have HM4 := Lib.hid hm4; have HB4 := Lib.hid (bthen HB3.out hb4); have Q4 := Lib.hid (Q3.out.below hb4); clear x0 x1 s3; obtain ⟨x0, x1⟩ := Q4.out.c2; have s4 := Q4.out.lt; have HI4 := Lib.hid (HIN.out _ HB4.out); clear hb4 hy4 hm4)
          | (go_at_call 73; (with_reducible refine Calls.mono HI4.out ?_); rintro e w5 ⟨AI, lI, cI, rfl, hb5, hv5, _⟩; have HB5 := Lib.hid (bthen HB4.out hb5); have HM5 := Lib.hid (HM4.out.below cq_stable hb5); have HV5 := Lib.hid hv5; have hlF := HM4.out.len; have hlF2 := (facM_ok HOU.out).1; rw [hlF2] at hlF; obtain rfl := hlF; obtain ⟨W6, mk, H0, hlt6⟩ := make_R w5 ls.length (by omega); clear hb5 hv5 x0 x1 s4))
        clear mk
        have HFM := Lib.hid (facM_ok HOU.out)
        have HINB := Lib.hid (fun j => (inL_qB n rs (fun x hx => by have := HRI.out x hx; omega) j).mono (show rs.length * 6 + 1 ≤ 8000003 by omega))
        have HINL := Lib.hid (inL_length n rs)
        obtain ⟨iv, hiv⟩ : ∃ iv, iv = inL n rs := ⟨_, rfl⟩
        have HFL := Lib.hid (show flowsL n ls out rs = (List.range ls.length).map fun i => dotq ((facM n ls out).getD i []) iv from by
          unfold flowsL
          rw [← hiv]
          refine List.ext_getElem (by simp [HFM.out.1]) (fun j h1 h2 => ?_)
          have hj : j < (facM n ls out).length := by simpa using h1
          rw [List.getElem_map, List.getElem_map, List.getElem_range, List.getD_eq_getElem?_getD, List.getElem?_eq_getElem hj]; rfl)
        rw [← hiv] at HV5 HINB HINL
        have HVB := Lib.hid (HV5.out.imp (fun v q hq h => cq_rq (B := 8000003) h (by
          obtain ⟨t, ht, rfl⟩ := List.getElem_of_mem hq
          have := HINB.out t
          rw [List.getD_eq_getElem?_getD, List.getElem?_eq_getElem ht] at this
          exact this)))
        clear hiv
        go_loopg [54] ls.length (fun gh iv9 wr => ∃ (k : Nat) (l' : List Qx), gh = ls.length - k ∧ k ≤ ls.length ∧ iv9 = .int .i64 (k : Int) ∧ Hid (MadeR w5 wr w5.heap.size (fillL (fun i => dotq ((facM n ls out).getD i []) iv) ls.length k) l'))
        case atStart => exact ⟨0, _, rfl, by omega, rfl, by rw [fillL_zero]; exact H0⟩
        case round =>
          obtain ⟨k, l', rfl, hk, rfl, HMK⟩ := hrel
          obtain ⟨wo, rfl⟩ : ∃ wo : World, wo = wr := ⟨_, rfl⟩
          by_cases hlt : k < ls.length
          · have hbo := HMK.out.below
            obtain ⟨bq, oq, Aq, cq', hA, hcq, hvq⟩ := (HM5.out.below cq_stable hbo).at (k := k) (by rw [HFM.out.1]; exact hlt)
            subst hA
            have hrl := HFM.out.2.1 k (by rw [HFM.out.1]; exact hlt)
            have hvb := hvq.imp (fun v q hq h => cq_rq (B := 8000003) h (rowsB_row HFM.out.2.2 q hq))
            have HD := Lib.hid (dot_c hvb (HVB.out.below (rq_stable _) hbo) (by omega) (by omega) (by rw [hrl, HINL.out]; omega))
            rw [hrl] at hcq HD
            have hll : k < l'.length := by rw [HMK.out.len, fillL_length]; exact hlt
            have hbq : bq < wo.heap.size := World.block_lt_of_cell? wo _ hcq
            clear hvq hrl hvb hbo
            go_wp2_with (go_at_call 47; (with_reducible refine Calls.mono HD.out ?_); rintro e w7 ⟨n3, A4, l4, c4, m3, D3, e3, g3, rfl, hb7, hr7⟩; have HM7 := Lib.hid (HMK.out.later hb7); have HR7 := Lib.hid hr7; obtain ⟨mb, mb', pp, qq, ⟨s0, s1, s2, s3⟩, _⟩ := HM7.out.four hll; have sf := HM7.out.frozen; have s6 := HM7.out.blk.lt; clear hb7 hr7)
            go_roundg (ls.length - (k + 1))
            case rel =>
              refine ⟨k + 1, l'.set k ⟨n3, .slice A4 l4 c4, m3, .slice D3 e3 g3⟩, rfl, by omega, val_int (by omega), Lib.hid ?_⟩
              have h9 := HM7.out.set (k := k) (y := ⟨n3, .slice A4 l4 c4, m3, .slice D3 e3 g3⟩) hll HR7.out.any
              rw [fillL_set (fun i => dotq ((facM n ls out).getD i []) iv)] at h9
              exact h9
            case measure => omega
          · obtain rfl : ls.length = k := by omega
            go_wp2
            refine bodyPost_ret (v := .tuple #[.slice (some ⟨w5.heap.size, 0, none⟩) ls.length ls.length, .int .i64 0]) ?_ rfl ⟨bthen HB5.out HMK.out.below, fun h => absurd rfl h, fun _ => ⟨_, _, _, rfl, ?_⟩⟩
            · simp [results, Tryz.results38, go_sem]
            · have hmk := HMK.out
              rw [fillL_all, ← HFL.out] at hmk
              have := hmk.vq (n0 := n0) (c := ls.length) (by rw [flowsL_length]; exact Nat.le_refl _) (by unfold maxLen; omega)
              rw [flowsL_length] at this
              exact this
  · have hz1 : z = wrongS b ls out rs := by rw [HE.out, if_pos h1]
    rw [← hz1] at h1 HW0
    clear hz1 HE
    go_enter Tryz.func38, Tryz.ntmps38
    go_wp2_with (go_at_call 100; (with_reducible refine Calls.mono HW0.out ?_); rintro e w1 ⟨rfl, hb1⟩; have HB1 := Lib.hid (bthen (bal (b0 w)) hb1); clear hb1)
    refine bodyPost_ret (v := .tuple #[.slice none 0 0, .int .i64 z]) ?_ rfl ⟨HB1.out, fun _ => rfl, fun h => absurd h h1⟩
    simp [results, Tryz.results38, go_sem]
end Go.Proofs.YtdkfdamihnieiaaGreat
end
