/- Package net, part 2: wants, Check. -/
import Derived.Test.YtdkfdamihnieiaaGreatG10
set_option linter.unusedSimpArgs false
set_option linter.unusedVariables false
section
open Go Go.RowKit Go.Shelf
namespace Go.Proofs.YtdkfdamihnieiaaGreat
open Go.Proofs
/-- A bus. -/
def isB (n z : Int) : Bool := decide (z ≥ 0) && decide (z < n)
theorem bus_c {w : World} {h : Nat} {n z : Int} (c0 : w.cell? ⟨h, 0, none⟩ = some (.int .i64 n)) : Calls Tryz.prog 190 #[.int .i64 z, .pointer (some ⟨h, 0, none⟩)] w fun e w' => e = .returned (.bool (isB n z)) ∧ w' = w := by
  unfold isB
  by_cases hz : z ≥ 0
  · go_enter Tryz.func190, Tryz.ntmps190
    go_wp2
    go_ret
    simp [hz]
  · go_enter Tryz.func190, Tryz.ntmps190
    go_wp2
    go_ret
    simp; omega
/-- What wants makes. -/
def wantsW (w : World) (n : Int) : World := ((w.alloc (.cells #[.int .i64 n] 3)).alloc (.cells #[.func (.func 190) #[] #[.pointer (some ⟨w.heap.size, 0, none⟩)]] 205)).alloc (.cells #[.func (.func 191) #[] #[.pointer (some ⟨w.heap.size + 1, 0, none⟩)], .func (.func 192) #[] #[], .func (.func 193) #[] #[], .func (.func 194) #[] #[]] 141)
theorem wants_c (w : World) (n : Int) : Calls Tryz.prog 122 #[.int .i64 n] w fun e w' => e = .returned (.slice (some ⟨w.heap.size + 1 + 1, 0, none⟩) 4 4) ∧ w' = wantsW w n := by
  unfold wantsW
  go_enter Tryz.func122, Tryz.ntmps122
  go_wp2
  go_ret
  exact ⟨rfl, rfl⟩
theorem has1_c {w : World} {h g : Nat} {n : Int} (l : Ln) (c0 : w.cell? ⟨h, 0, none⟩ = some (.int .i64 n)) (c1 : w.cell? ⟨g, 0, none⟩ = some (.func (.func 190) #[] #[.pointer (some ⟨h, 0, none⟩)])) : Calls Tryz.prog 191 #[l.v, .pointer (some ⟨g, 0, none⟩)] w (RetO w (.bool (isB n l.f && isB n l.t))) := by
  have hg := World.block_lt_of_cell? w _ c1
  have hh := World.block_lt_of_cell? w _ c0
  simp only at hg hh
  have hg' : w.heap.size ≠ g := by omega
  have c0' : (w.alloc (.cells #[.int .i64 l.f, .int .i64 l.t, .int .i64 l.x, .int .i64 l.c] 68)).cell? ⟨h, 0, none⟩ = some (.int .i64 n) := ((bal (b0 w)).cell (p := ⟨h, 0, none⟩) hh).trans c0
  unfold Ln.v
  cases hf : isB n l.f
  · go_enter Tryz.func191, Tryz.ntmps191
    go_wp2_with (go_at_call 190; (with_reducible refine Calls.mono (bus_c c0') ?_); rintro e w1 ⟨rfl, rfl⟩)
    go_ret
    exact ⟨by simp [hf], bal (b0 _)⟩
  · go_enter Tryz.func191, Tryz.ntmps191
    go_wp2_with (go_at_call 190; (with_reducible refine Calls.mono (bus_c c0') ?_); rintro e w1 ⟨rfl, rfl⟩)
    go_ret
    exact ⟨by simp [hf], bal (b0 _)⟩
theorem has2_c (w : World) (l : Ln) : Calls Tryz.prog 192 #[l.v] w (RetO w (.bool (decide (l.f ≠ l.t)))) := by
  unfold Ln.v
  go_enter Tryz.func192, Tryz.ntmps192
  go_wp2
  go_ret
  exact ⟨by by_cases h : l.f = l.t <;> simp [h], bal (b0 _)⟩
theorem has3_c (w : World) (l : Ln) : Calls Tryz.prog 193 #[l.v] w (RetO w (.bool (decide (l.x ≥ 1) && decide (l.x ≤ 1000)))) := by
  unfold Ln.v
  by_cases hz : l.x ≥ 1
  · go_enter Tryz.func193, Tryz.ntmps193
    go_wp2
    go_ret
    exact ⟨by simp [hz], bal (b0 _)⟩
  · go_enter Tryz.func193, Tryz.ntmps193
    go_wp2
    go_ret
    exact ⟨by simp; omega, bal (b0 _)⟩
theorem has4_c (w : World) (l : Ln) : Calls Tryz.prog 194 #[l.v] w (RetO w (.bool (decide (l.c ≥ 0) && decide (l.c ≤ 1000000)))) := by
  unfold Ln.v
  by_cases hz : l.c ≥ 0
  · go_enter Tryz.func194, Tryz.ntmps194
    go_wp2
    go_ret
    exact ⟨by simp [hz], bal (b0 _)⟩
  · go_enter Tryz.func194, Tryz.ntmps194
    go_wp2
    go_ret
    exact ⟨by simp; omega, bal (b0 _)⟩
end Go.Proofs.YtdkfdamihnieiaaGreat
end
section
/- Package net, part 3: Check. -/
open Go Go.RowKit Go.Shelf
namespace Go.Proofs.YtdkfdamihnieiaaGreat
open Go.Proofs
/-- The conditions on a line. -/
def hasL (b : Int) (l : Ln) : Nat → Bool
  | 0 => isB b l.f && isB b l.t
  | 1 => decide (l.f ≠ l.t)
  | 2 => decide (l.x ≥ 1) && decide (l.x ≤ 1000)
  | _ => decide (l.c ≥ 0) && decide (l.c ≤ 1000000)
def lnok (b : Int) (l : Ln) : Bool := hasL b l 0 && hasL b l 1 && hasL b l 2 && hasL b l 3
theorem lnok_all {b l} (h : ∀ i, i < 4 → hasL b l i = true) : lnok b l = true := by
  unfold lnok; rw [h 0 (by omega), h 1 (by omega), h 2 (by omega), h 3 (by omega)]; rfl
theorem lnok_not {b l i} (hi : i < 4) (h : hasL b l i = false) : lnok b l = false := by
  unfold lnok
  obtain rfl | rfl | rfl | rfl : i = 0 ∨ i = 1 ∨ i = 2 ∨ i = 3 := by omega
  all_goals simp [h]
/-- What Check answers. -/
def chkS (b : Int) (ls : List Ln) : Int := if b < 1 ∨ b > 6 then 1 else if 10 < ls.length then 5 else if ls.all (lnok b) then 0 else 1
structure WantsI (W : World) (h : Nat) (b : Int) : Prop where
  c0 : W.cell? ⟨h, 0, none⟩ = some (.int .i64 b)
  c1 : W.cell? ⟨h + 1, 0, none⟩ = some (.func (.func 190) #[] #[.pointer (some ⟨h, 0, none⟩)])
  d0 : W.cell? ⟨h + 1 + 1, 0, none⟩ = some (.func (.func 191) #[] #[.pointer (some ⟨h + 1, 0, none⟩)])
  d1 : W.cell? ⟨h + 1 + 1, 1, none⟩ = some (.func (.func 192) #[] #[])
  d2 : W.cell? ⟨h + 1 + 1, 2, none⟩ = some (.func (.func 193) #[] #[])
  d3 : W.cell? ⟨h + 1 + 1, 3, none⟩ = some (.func (.func 194) #[] #[])
theorem WantsI.start (w : World) (b : Int) : WantsI (wantsW w b) w.heap.size b := by
  unfold wantsW
  have e1 : (w.alloc (.cells #[.int .i64 b] 3)).heap.size = w.heap.size + 1 := by simp
  have e2 : ((w.alloc (.cells #[.int .i64 b] 3)).alloc (.cells #[.func (.func 190) #[] #[.pointer (some ⟨w.heap.size, 0, none⟩)]] 205)).heap.size = w.heap.size + 1 + 1 := by simp
  have n0 := Blk.new w [.int .i64 b] 3 rfl
  have n1 := Blk.new (w.alloc (.cells #[.int .i64 b] 3)) [.func (.func 190) #[] #[.pointer (some ⟨w.heap.size, 0, none⟩)]] 205 e1
  have n2 := Blk.new ((w.alloc (.cells #[.int .i64 b] 3)).alloc (.cells #[.func (.func 190) #[] #[.pointer (some ⟨w.heap.size, 0, none⟩)]] 205)) [.func (.func 191) #[] #[.pointer (some ⟨w.heap.size + 1, 0, none⟩)], .func (.func 192) #[] #[], .func (.func 193) #[] #[], .func (.func 194) #[] #[]] 141 e2
  exact ⟨(Blk.al (Blk.al n0)).cell 0, (Blk.al n1).cell 0, n2.cell 0, n2.cell 1, n2.cell 2, n2.cell 3⟩
theorem WantsI.later {W W' h b} (H : WantsI W h b) (hb : Below W.heap.size W W') : WantsI W' h b := by
  have k : ∀ {a : Addr} {u}, W.cell? a = some u → W'.cell? a = some u := fun h => (hb.cell (World.block_lt_of_cell? W _ h)).trans h
  exact ⟨k H.c0, k H.c1, k H.d0, k H.d1, k H.d2, k H.d3⟩
set_option maxRecDepth 100000 in
set_option maxHeartbeats 4000000 in
theorem check_c {w : World} {b : Int} {v : Value} {ls : List Ln} (h : Vl w v ls) : Calls Tryz.prog 52 #[.agg #[.int .i64 b, v]] w (RetO w (.int .i64 (chkS b ls))) := by
  obtain ⟨A, l, c, rfl⟩ := h.shape
  obtain rfl := h.len
  have hm := h.lim
  by_cases hb1 : b < 1
  · have he : chkS b ls = 1 := by unfold chkS; rw [if_pos (.inl hb1)]
    rw [he]
    go_enter Tryz.func52, Tryz.ntmps52
    go_wp2
    go_step3
    go_wp2
    try rw [Exit.noGoto_ret]
    go_ret
    exact ⟨rfl, bal (b0 _)⟩
  by_cases hb2 : b > 6
  · have he : chkS b ls = 1 := by unfold chkS; rw [if_pos (.inr hb2)]
    rw [he]
    go_enter Tryz.func52, Tryz.ntmps52
    go_wp2
    go_step3
    go_wp2
    try rw [Exit.noGoto_ret]
    go_ret
    exact ⟨rfl, bal (b0 _)⟩
  by_cases hl : 10 < ls.length
  · have he : chkS b ls = 5 := by unfold chkS; rw [if_neg (by omega), if_pos hl]
    rw [he]
    have hl2 : (ls.length : Int) > 10 := by omega
    go_enter Tryz.func52, Tryz.ntmps52
    go_wp2
    go_step3
    go_wp2
    try rw [Exit.noGoto_ret]
    go_ret
    exact ⟨rfl, bal (b0 _)⟩
  have he : chkS b ls = if ls.all (lnok b) then 0 else 1 := by unfold chkS; rw [if_neg (by omega), if_neg hl]
  obtain ⟨z, hz⟩ : ∃ z, z = chkS b ls := ⟨_, rfl⟩
  rw [← hz] at he ⊢
  have hq1 : decide (b < 1) = false := by simpa using hb1
  have hq2 : decide (6 < b) = false := by simpa using hb2
  have hq3 : decide (10 < (ls.length : Int)) = false := by simp; omega
  have HE := Lib.hid he
  clear he hz hb1 hb2 hl
  go_enter Tryz.func52, Tryz.ntmps52
  go_wp2
  go_step3
  go_wp2_with (go_at_call 122; (with_reducible refine Calls.mono (wants_c _ _) ?_); rintro e w1 ⟨rfl, hw1⟩; have HW := Lib.hid (show WantsI w1 (w.heap.size + 1) b by have := WantsI.start (w.alloc (.cells #[.int .i64 b, .slice A ls.length c] 24)) b; rw [hw1]; simpa using this); have HB := Lib.hid (show Below (w.alloc (.cells #[.int .i64 b, .slice A ls.length c] 24)).heap.size (w.alloc (.cells #[.int .i64 b, .slice A ls.length c] 24)) w1 by rw [hw1]; unfold wantsW; exact bal (bal (bal (b0 _)))); have hn1 := (HB.out.cell (p := ⟨w.heap.size, 1, none⟩) (by simp)).trans (World.cell?_alloc_new w _ 24 1); clear hw1)
  go_step3
  go_wp2
  go_loopg [2, 28] ls.length (fun g ev iv wr => ∃ k : Nat, g = ls.length - k ∧ ev = .int .i64 0 ∧ iv = .int .i64 (k : Int) ∧ k ≤ ls.length ∧ Below w1.heap.size w1 wr ∧ Hid ((ls.take k).all (lnok b) = true))
  case atStart => exact ⟨0, by omega, rfl, rfl, Nat.zero_le _, b0 _, Lib.hid (by simp)⟩
  case round =>
    obtain ⟨k, rfl, rfl, rfl, hk, hbl, hall⟩ := hrel
    by_cases hlt : k < ls.length
    · obtain ⟨bb, o, rfl, hc⟩ := h.at (by omega)
      obtain ⟨x0, x1, x2, x3⟩ := hc k hlt
      clear hc
      obtain ⟨y, hy⟩ : ∃ y, y = ls.getD k Ln.zero := ⟨_, rfl⟩
      rw [← hy] at x0 x1 x2 x3
      have hbw : Below w.heap.size w wr := bthen (bal (b0 _)) (HB.out.trans (hbl.mono HB.out.size))
      have kk : ∀ {a : Addr} {u}, w.cell? a = some u → wr.cell? a = some u := fun h => (hbw.cell (World.block_lt_of_cell? w _ h)).trans h
      have y0 := kk x0
      have y1 := kk x1
      have y2 := kk x2
      have y3 := kk x3
      have hW2 := Lib.hid (HW.out.later hbl)
      have Hy := Lib.hid hy
      clear hy x0 x1 x2 x3 kk
      go_wp2
      obtain ⟨wo, rfl⟩ : ∃ wo : World, wo = wr := ⟨_, rfl⟩
      go_loopg [2, 34] 4 (fun g ev jv wr => ∃ m : Nat, g = 4 - m ∧ ev = .int .i64 0 ∧ jv = .int .i64 (m : Int) ∧ m ≤ 4 ∧ Below (wo.alloc (Obj.cells #[.int .i64 y.f, .int .i64 y.t, .int .i64 y.x, .int .i64 y.c] 68)).heap.size (wo.alloc (Obj.cells #[.int .i64 y.f, .int .i64 y.t, .int .i64 y.x, .int .i64 y.c] 68)) wr ∧ Hid (∀ i, i < m → hasL b y i = true))
      case atStart => exact ⟨0, rfl, rfl, rfl, by omega, b0 _, Lib.hid (fun i hi => by omega)⟩
      case round =>
        obtain ⟨m, rfl, rfl, rfl, hm4, hbi, hall2⟩ := hrel
        have hWi := Lib.hid (hW2.out.later (bthen (bal (b0 _)) hbi))
        have t5 := fun i => (hbi.cell (p := ⟨wo.heap.size, i, none⟩) (by simp)).trans (World.cell?_alloc_new wo #[.int .i64 y.f, .int .i64 y.t, .int .i64 y.x, .int .i64 y.c] 68 i)
        have t50 := t5 0
        have t51 := t5 1
        have t52 := t5 2
        have t53 := t5 3
        simp only [List.getElem?_toArray, List.getElem?_cons_zero, List.getElem?_cons_succ] at t50 t51 t52 t53
        have d0 := hWi.out.d0
        have d1 := hWi.out.d1
        have d2 := hWi.out.d2
        have d3 := hWi.out.d3
        have hle : wo.heap.size < wr.heap.size := Nat.lt_of_lt_of_le (by simp) hbi.size
        clear t5
        by_cases h4 : m < 4
        · obtain rfl | rfl | rfl | rfl : m = 0 ∨ m = 1 ∨ m = 2 ∨ m = 3 := by omega
          · have hI0 := Lib.hid hall2
            obtain ⟨v, hv⟩ : ∃ v, v = hasL b y 0 := ⟨_, rfl⟩
            have C := has1_c y (w := wr.alloc (.cells #[.func (.func 191) #[] #[.pointer (some ⟨w.heap.size + 1 + 1, 0, none⟩)]] 141)) (hWi.out.later (bal (b0 _))).c0 (hWi.out.later (bal (b0 _))).c1
            rw [show (isB b y.f && isB b y.t : Bool) = v from hv.symm] at C
            simp only [Ln.v] at C
            have HV := Lib.hid hv
            have HC := Lib.hid C
            clear C hv
            cases v
            · go_wp2_with (go_at_call 191; (with_reducible refine Calls.mono HC.out ?_); rintro e w5 ⟨rfl, hb5⟩)
              try rw [Exit.noGoto_ret]
              go_ret
              refine ⟨?_, ?_⟩
              · show Ending.returned (Value.int .i64 1) = _
                rw [HE.out, if_neg]
                intro h
                have := List.all_eq_true.1 h y (by rw [Hy.out, List.getD_eq_getElem?_getD, List.getElem?_eq_getElem hlt]; exact List.getElem_mem hlt)
                rw [lnok_not (by omega) HV.out.symm] at this; cases this
              · exact hbw.trans ((bal (b0 wo)).mono hbw.size |>.trans (hbi.mono (by simp; exact Nat.le_succ_of_le hbw.size)) |>.trans ((bal (b0 wr)).mono (Nat.le_trans hbw.size (Nat.le_trans (by simp) hbi.size)) |>.trans (hb5.mono (by simp; exact Nat.le_succ_of_le (Nat.le_trans hbw.size (Nat.le_trans (by simp) hbi.size))))))
            · go_wp2_with (go_at_call 191; (with_reducible refine Calls.mono HC.out ?_); rintro e w5 ⟨rfl, hb5⟩)
              go_roundg (4 - 1)
              case rel =>
                refine ⟨1, by omega, rfl, rfl, by omega, ?_, Lib.hid (fun i hi => ?_)⟩
                · exact bthen (bthen hbi (bal (b0 _))) hb5
                · by_cases h2 : i < 0
                  · exact hI0.out i h2
                  · obtain rfl : i = 0 := by omega
                    exact HV.out.symm
              case measure => omega
          · have hI1 := Lib.hid hall2
            obtain ⟨v, hv⟩ : ∃ v, v = hasL b y 1 := ⟨_, rfl⟩
            have C := has2_c (wr.alloc (.cells #[.func (.func 192) #[] #[]] 141)) y
            rw [show (decide (y.f ≠ y.t) : Bool) = v from hv.symm] at C
            simp only [Ln.v] at C
            have HV := Lib.hid hv
            have HC := Lib.hid C
            clear C hv
            cases v
            · go_wp2_with (go_at_call 192; (with_reducible refine Calls.mono HC.out ?_); rintro e w5 ⟨rfl, hb5⟩)
              try rw [Exit.noGoto_ret]
              go_ret
              refine ⟨?_, ?_⟩
              · show Ending.returned (Value.int .i64 1) = _
                rw [HE.out, if_neg]
                intro h
                have := List.all_eq_true.1 h y (by rw [Hy.out, List.getD_eq_getElem?_getD, List.getElem?_eq_getElem hlt]; exact List.getElem_mem hlt)
                rw [lnok_not (by omega) HV.out.symm] at this; cases this
              · exact hbw.trans ((bal (b0 wo)).mono hbw.size |>.trans (hbi.mono (by simp; exact Nat.le_succ_of_le hbw.size)) |>.trans ((bal (b0 wr)).mono (Nat.le_trans hbw.size (Nat.le_trans (by simp) hbi.size)) |>.trans (hb5.mono (by simp; exact Nat.le_succ_of_le (Nat.le_trans hbw.size (Nat.le_trans (by simp) hbi.size))))))
            · go_wp2_with (go_at_call 192; (with_reducible refine Calls.mono HC.out ?_); rintro e w5 ⟨rfl, hb5⟩)
              go_roundg (4 - 2)
              case rel =>
                refine ⟨2, by omega, rfl, rfl, by omega, ?_, Lib.hid (fun i hi => ?_)⟩
                · exact bthen (bthen hbi (bal (b0 _))) hb5
                · by_cases h2 : i < 1
                  · exact hI1.out i h2
                  · obtain rfl : i = 1 := by omega
                    exact HV.out.symm
              case measure => omega
          · have hI2 := Lib.hid hall2
            obtain ⟨v, hv⟩ : ∃ v, v = hasL b y 2 := ⟨_, rfl⟩
            have C := has3_c (wr.alloc (.cells #[.func (.func 193) #[] #[]] 141)) y
            rw [show (decide (y.x ≥ 1) && decide (y.x ≤ 1000) : Bool) = v from hv.symm] at C
            simp only [Ln.v] at C
            have HV := Lib.hid hv
            have HC := Lib.hid C
            clear C hv
            cases v
            · go_wp2_with (go_at_call 193; (with_reducible refine Calls.mono HC.out ?_); rintro e w5 ⟨rfl, hb5⟩)
              try rw [Exit.noGoto_ret]
              go_ret
              refine ⟨?_, ?_⟩
              · show Ending.returned (Value.int .i64 1) = _
                rw [HE.out, if_neg]
                intro h
                have := List.all_eq_true.1 h y (by rw [Hy.out, List.getD_eq_getElem?_getD, List.getElem?_eq_getElem hlt]; exact List.getElem_mem hlt)
                rw [lnok_not (by omega) HV.out.symm] at this; cases this
              · exact hbw.trans ((bal (b0 wo)).mono hbw.size |>.trans (hbi.mono (by simp; exact Nat.le_succ_of_le hbw.size)) |>.trans ((bal (b0 wr)).mono (Nat.le_trans hbw.size (Nat.le_trans (by simp) hbi.size)) |>.trans (hb5.mono (by simp; exact Nat.le_succ_of_le (Nat.le_trans hbw.size (Nat.le_trans (by simp) hbi.size))))))
            · go_wp2_with (go_at_call 193; (with_reducible refine Calls.mono HC.out ?_); rintro e w5 ⟨rfl, hb5⟩)
              go_roundg (4 - 3)
              case rel =>
                refine ⟨3, by omega, rfl, rfl, by omega, ?_, Lib.hid (fun i hi => ?_)⟩
                · exact bthen (bthen hbi (bal (b0 _))) hb5
                · by_cases h2 : i < 2
                  · exact hI2.out i h2
                  · obtain rfl : i = 2 := by omega
                    exact HV.out.symm
              case measure => omega
          · have hI3 := Lib.hid hall2
            obtain ⟨v, hv⟩ : ∃ v, v = hasL b y 3 := ⟨_, rfl⟩
            have C := has4_c (wr.alloc (.cells #[.func (.func 194) #[] #[]] 141)) y
            rw [show (decide (y.c ≥ 0) && decide (y.c ≤ 1000000) : Bool) = v from hv.symm] at C
            simp only [Ln.v] at C
            have HV := Lib.hid hv
            have HC := Lib.hid C
            clear C hv
            cases v
            · go_wp2_with (go_at_call 194; (with_reducible refine Calls.mono HC.out ?_); rintro e w5 ⟨rfl, hb5⟩)
              try rw [Exit.noGoto_ret]
              go_ret
              refine ⟨?_, ?_⟩
              · show Ending.returned (Value.int .i64 1) = _
                rw [HE.out, if_neg]
                intro h
                have := List.all_eq_true.1 h y (by rw [Hy.out, List.getD_eq_getElem?_getD, List.getElem?_eq_getElem hlt]; exact List.getElem_mem hlt)
                rw [lnok_not (by omega) HV.out.symm] at this; cases this
              · exact hbw.trans ((bal (b0 wo)).mono hbw.size |>.trans (hbi.mono (by simp; exact Nat.le_succ_of_le hbw.size)) |>.trans ((bal (b0 wr)).mono (Nat.le_trans hbw.size (Nat.le_trans (by simp) hbi.size)) |>.trans (hb5.mono (by simp; exact Nat.le_succ_of_le (Nat.le_trans hbw.size (Nat.le_trans (by simp) hbi.size))))))
            · go_wp2_with (go_at_call 194; (with_reducible refine Calls.mono HC.out ?_); rintro e w5 ⟨rfl, hb5⟩)
              go_roundg (4 - 4)
              case rel =>
                refine ⟨4, by omega, rfl, rfl, by omega, ?_, Lib.hid (fun i hi => ?_)⟩
                · exact bthen (bthen hbi (bal (b0 _))) hb5
                · by_cases h2 : i < 3
                  · exact hI3.out i h2
                  · obtain rfl : i = 3 := by omega
                    exact HV.out.symm
              case measure => omega
        · obtain rfl : m = 4 := by omega
          have hok := lnok_all hall2.out
          go_wp2
          go_roundg (ls.length - (k + 1))
          case rel =>
            refine ⟨k + 1, by omega, rfl, val_int (by omega), by omega, bthen hbl (bthen (bal (b0 _)) hbi), Lib.hid ?_⟩
            rw [List.take_succ_eq_append_getElem hlt, List.all_append, hall.out]
            simp only [List.all_cons, List.all_nil, Bool.true_and, Bool.and_true]
            rw [show ls[k] = y by rw [Hy.out, List.getD_eq_getElem?_getD, List.getElem?_eq_getElem hlt]; rfl]
            exact hok
          case measure => omega
    · obtain rfl : k = ls.length := by omega
      have hall2 := hall.out
      rw [List.take_length] at hall2
      have hz := HE.out
      rw [if_pos hall2] at hz
      have HZ := Lib.hid hz
      clear hz
      have hbw := Lib.hid (show Below w.heap.size w wr from bthen (bal (b0 _)) (HB.out.trans (hbl.mono HB.out.size)))
      go_wp2
      try rw [Exit.noGoto_ret]
      go_ret
      refine ⟨?_, hbw.out⟩
      rw [HZ.out]
      rfl
end Go.Proofs.YtdkfdamihnieiaaGreat
end
section
/- A region that draws its order, by what each of its operations yields. -/
open Go Go.RowKit Go.Shelf
namespace Go.Proofs.YtdkfdamihnieiaaGreat
open Go.Proofs
def upd (u : Nat → Value) (j : Nat) (v : Value) : Nat → Value := fun k => if k = j then v else u k
section
variable {F : Fence} {n : Nat} {P : Program} {ops : Array Oper} {Q : Exit → Act → World → Prop}
/-- All operations but the last wait for nothing that the last does. -/
def lastAll (ops : Array Oper) (m : Nat) : Bool := match ops[m]? with | some o => (List.range m).all fun k => o.after.any fun e => (e.on == k) && Region.binds .any e | none => false
/-- The region, by what each operation yields; the last one has all others behind it. -/
theorem wpIn_region_yieldL {id : Nat} {a : Act} {w : World} (hm : P.follows .mixedOrders = true) (hac : edgesBack ops = true) (m : Nat) (hsz : ops.size = m + 1) (hla : lastAll ops m = true)
    (mk : (Nat → Value) → Act) (u0 : Nat → Value) (ha : a = mk u0)
    (R : World → World → Prop) (hrefl : ∀ w, R w w) (htrans : ∀ {w1 w2 w3}, R w1 w2 → R w2 w3 → R w1 w3)
    (Y : Nat → Value → World → Prop) (hY : ∀ k v w w', Y k v w → R w w' → Y k v w')
    (step : ∀ (u : Nat → Value) (w' : World) (j : Nat) (o : Oper), j < m → ops[j]? = some o → R w.drew w' → (∀ e ∈ o.after, Region.binds .any e = true → Y e.on (u e.on) w') → wpOpIn F n P ops Q j (fun a' w2 => ∃ v, a' = mk (upd u j v) ∧ R w' w2 ∧ Y j v w2) (mk u) w')
    (fin : ∀ (u : Nat → Value) (w' : World), R w.drew w' → (∀ k, k < m → Y k (u k) w') → wpOpIn F n P ops Q m (fun a' w2 => Q .normal a' w2) (mk u) w') :
    (Code.region id ops true).wpIn F n P Q a w := by
  subst ha
  refine wpIn_region_inv hm (I := fun L a w' => (¬ dn L m ∧ ∃ u, a = mk u ∧ R w.drew w' ∧ ∀ k, dn L k → Y k (u k) w') ∨ (dn L m ∧ Q .normal a w')) hac (.inl ⟨by rw [dn_start]; exact fun h => h, u0, rfl, hrefl _, fun k h => by rw [dn_start] at h; exact h.elim⟩) ?_ ?_
  · intro L a w' j o hs hcl hI hj ho hpre
    obtain ⟨hjf, hjl⟩ := not_dn hj
    have hjm : j < m + 1 := by rw [← hsz]; exact (Array.getElem?_eq_some_iff.1 ho).1
    have hlast : dn L m → ∀ k, k < m → dn L k := by
      intro h k hk
      unfold lastAll at hla
      cases ho2 : ops[m]? with
      | none => rw [ho2] at hla; cases hla
      | some o2 =>
        rw [ho2] at hla
        have := List.all_eq_true.1 hla k (List.mem_range.2 hk)
        obtain ⟨i, hi, he⟩ := Array.any_eq_true.1 this
        simp only [Bool.and_eq_true, beq_iff_eq] at he
        have := hcl.dn ho2 h o2.after[i] (Array.getElem_mem _) he.2
        rw [he.1] at this; exact this
    rcases hI with ⟨hnm, u, rfl, hR, hu⟩ | ⟨hd, _⟩
    · by_cases hjm2 : j = m
      · subst hjm2
        have hall : ∀ k, k < j → dn L k := by
          intro k hk
          unfold lastAll at hla
          rw [ho] at hla
          have := List.all_eq_true.1 hla k (List.mem_range.2 hk)
          obtain ⟨i, hi, he⟩ := Array.any_eq_true.1 this
          simp only [Bool.and_eq_true, beq_iff_eq] at he
          have := hpre o.after[i] (Array.getElem_mem _) he.2
          rw [he.1] at this; exact this
        refine wpOpIn_mono (fun a' w2 h => .inr ⟨?_, h⟩) (fin u w' hR (fun k hk => hu k (hall k hk)))
        rw [dn_self hjl]; trivial
      · refine wpOpIn_mono (fun a' w2 h => ?_) (step u w' j o (by omega) ho hR (fun e he hb => hu e.on (hpre e he hb)))
        obtain ⟨v, rfl, hR2, hY2⟩ := h
        refine .inl ⟨by rw [dn_ne hjm2]; exact hnm, _, rfl, htrans hR hR2, fun k hk => ?_⟩
        by_cases hkj : k = j
        · subst hkj; simpa [upd] using hY2
        · rw [dn_ne (fun h => hkj h.symm)] at hk
          simpa [upd, hkj] using hY k _ w' w2 (hu k hk) hR2
    · exfalso
      by_cases hjm2 : j = m
      · subst hjm2; exact hjf hd
      · exact hjf (hlast hd j (by omega))
  · intro L a w' hI hall
    rcases hI with ⟨hnm, _⟩ | ⟨_, h⟩
    · exact absurd (hall m (by omega)) hnm
    · exact h
/-- The region, by what each operation yields. -/
theorem wpIn_region_yield {id : Nat} {a : Act} {w : World} (hm : P.follows .mixedOrders = true) (hac : edgesBack ops = true)
    (mk : (Nat → Value) → Act) (u0 : Nat → Value) (ha : a = mk u0)
    (R : World → World → Prop) (hrefl : ∀ w, R w w) (htrans : ∀ {w1 w2 w3}, R w1 w2 → R w2 w3 → R w1 w3)
    (Y : Nat → Value → World → Prop) (hY : ∀ k v w w', Y k v w → R w w' → Y k v w')
    (step : ∀ (u : Nat → Value) (w' : World) (j : Nat) (o : Oper), ops[j]? = some o → R w.drew w' → (∀ e ∈ o.after, Region.binds .any e = true → Y e.on (u e.on) w') → wpOpIn F n P ops Q j (fun a' w2 => ∃ v, a' = mk (upd u j v) ∧ R w' w2 ∧ Y j v w2) (mk u) w')
    (done : ∀ (u : Nat → Value) (w' : World), R w.drew w' → (∀ k, k < ops.size → Y k (u k) w') → Q .normal (mk u) w') :
    (Code.region id ops true).wpIn F n P Q a w := by
  subst ha
  refine wpIn_region_inv hm (I := fun L a w' => ∃ u, a = mk u ∧ R w.drew w' ∧ ∀ k, dn L k → Y k (u k) w') hac ⟨u0, rfl, hrefl _, fun k h => by rw [dn_start] at h; exact h.elim⟩ ?_ ?_
  · intro L a w' j o hs hcl hI hj ho hpre
    obtain ⟨hjf, hjl⟩ := not_dn hj
    obtain ⟨u, rfl, hR, hu⟩ := hI
    refine wpOpIn_mono (fun a' w2 h => ?_) (step u w' j o ho hR (fun e he hb => hu e.on (hpre e he hb)))
    obtain ⟨v, rfl, hR2, hY2⟩ := h
    refine ⟨_, rfl, htrans hR hR2, fun k hk => ?_⟩
    by_cases hkj : k = j
    · subst hkj; simpa [upd] using hY2
    · rw [dn_ne (fun h => hkj h.symm)] at hk
      simpa [upd, hkj] using hY k _ w' w2 (hu k hk) hR2
  · intro L a w' hI hall
    obtain ⟨u, rfl, hR, hu⟩ := hI
    exact done u w' hR (fun k hk => hu k (hall k hk))
end
end Go.Proofs.YtdkfdamihnieiaaGreat
end
section
/- Package net, part 4: BinarySearch, Outs. -/
open Go Go.RowKit Go.Shelf
namespace Go.Proofs.YtdkfdamihnieiaaGreat
open Go.Proofs
/-- Strictly rising. -/
def StrictL (xs : List Int) : Prop := ∀ i j, i < j → j < xs.length → xs.getD i 0 < xs.getD j 0
theorem risesL_all {k : Int} {xs : List Int} (h : risesL k xs = true) : (∀ x ∈ xs, k < x) ∧ StrictL xs := by
  induction xs generalizing k with
  | nil => exact ⟨fun x h => by simp at h, fun i j h1 h2 => by simp at h2⟩
  | cons x r ih =>
    unfold risesL at h
    by_cases hx : x ≤ k
    · rw [if_pos hx] at h; cases h
    · rw [if_neg hx] at h
      obtain ⟨h1, h2⟩ := ih h
      refine ⟨fun y hy => ?_, fun i j hij hj => ?_⟩
      · rcases List.mem_cons.1 hy with rfl | hy
        · omega
        · have := h1 y hy; omega
      · cases j with
        | zero => omega
        | succ j =>
          have hj2 : j < r.length := by simpa using hj
          cases i with
          | zero =>
            simp only [List.getD_cons_zero, List.getD_cons_succ]
            refine h1 _ ?_
            rw [List.getD_eq_getElem?_getD, List.getElem?_eq_getElem hj2]; exact List.getElem_mem hj2
          | succ i => simpa only [List.getD_cons_succ] using h2 i j (by omega) hj2
theorem found_iff {xs : List Int} {t : Int} {n : Nat} (hn : n ≤ xs.length) (h1 : ∀ j, j < n → xs.getD j 0 < t) (h2 : ∀ j, n ≤ j → j < xs.length → t ≤ xs.getD j 0) (hs : StrictL xs) : xs.contains t = (decide (n < xs.length) && decide (xs.getD n 0 = t)) := by
  rw [Bool.eq_iff_iff, List.contains_iff_mem]
  simp only [Bool.and_eq_true, decide_eq_true_eq]
  constructor
  · intro h
    obtain ⟨j, hj, rfl⟩ := List.getElem_of_mem h
    have e : xs[j] = xs.getD j 0 := by rw [List.getD_eq_getElem?_getD, List.getElem?_eq_getElem hj]; rfl
    rw [e] at h1 h2 ⊢
    have hnj : n ≤ j := by
      by_cases h : j < n
      · have := h1 j h; omega
      · omega
    have hl : n < xs.length := by omega
    refine ⟨hl, ?_⟩
    by_cases hne : n = j
    · rw [hne]
    · have a := hs n j (by omega) hj
      have b := h2 n (Nat.le_refl _) hl
      omega
  · rintro ⟨h, rfl⟩
    rw [List.getD_eq_getElem?_getD, List.getElem?_eq_getElem h]; exact List.getElem_mem h
set_option maxHeartbeats 2000000 in
theorem bsearch_c {w : World} {v : Value} {xs : List Int} (h : Vi w v xs) (t : Int) (hs : StrictL xs) (hm : xs.length ≤ 1000000000) : Calls Tryz.prog 235 #[v, .int .i64 t] w fun e w' => (∃ z : Int, e = .returned (.tuple #[.int .i64 z, .bool (xs.contains t)])) ∧ w' = w := by
  obtain ⟨A, l, c, rfl⟩ := h.shape
  obtain rfl := h.len
  have Hs := Lib.hid hs
  clear hs
  obtain ⟨z, hz⟩ : ∃ z, z = xs.contains t := ⟨_, rfl⟩
  rw [← hz]
  have HZ := Lib.hid hz
  clear hz
  go_enter Tryz.func235, Tryz.ntmps235
  go_wp2
  go_loopw [7, 8] (fun lv hv wr => ∃ lo hi : Nat, lv = .int .i64 (lo : Int) ∧ hv = .int .i64 (hi : Int) ∧ lo ≤ hi ∧ hi ≤ xs.length ∧ wr = w ∧ Hid (∀ j, j < lo → xs.getD j 0 < t) ∧ Hid (∀ j, hi ≤ j → j < xs.length → t ≤ xs.getD j 0)) (fun lv hv _ => (intOf hv).toNat - (intOf lv).toNat)
  case atStart => exact ⟨0, xs.length, rfl, rfl, Nat.zero_le _, Nat.le_refl _, rfl, Lib.hid (fun j hj => by omega), Lib.hid (fun j h1 h2 => by omega)⟩
  case round =>
    obtain ⟨lo, hi, rfl, rfl, hlh, hhi, rfl, H1, H2⟩ := hrel
    by_cases hlt : lo < hi
    · obtain ⟨b, o, rfl, hc⟩ := h.at (by omega)
      have hm2 : (lo + hi) / 2 < hi := by omega
      have hm3 : (lo + hi) / 2 < xs.length := by omega
      have c1 := hc ((lo + hi) / 2) hm3
      obtain ⟨y, hy⟩ : ∃ y, y = xs.getD ((lo + hi) / 2) 0 := ⟨_, rfl⟩
      rw [← hy] at c1
      have Hy := Lib.hid hy
      clear hy hc
      have mono : ∀ j k, j ≤ k → k < xs.length → xs.getD j 0 ≤ xs.getD k 0 := fun j k h1 h2 => by
        rcases Nat.lt_or_ge j k with h | h
        · exact Int.le_of_lt (Hs.out j k h h2)
        · obtain rfl : j = k := by omega
          exact Int.le_refl _
      have HM := Lib.hid mono
      clear mono
      by_cases hyt : y < t
      · go_wp2_with (go_at_call 251; (with_reducible refine Calls.mono (less_c _ _ _) ?_); rintro e w1 ⟨rfl, rfl⟩)
        refine ⟨⟨(lo + hi) / 2 + 1, hi, val_int (by omega), rfl, by omega, hhi, trivial, Lib.hid (fun j hj => ?_), H2⟩, by simp [intOf]; omega⟩
        have := HM.out j ((lo + hi) / 2) (by omega) hm3
        rw [← Hy.out] at this; omega
      · go_wp2_with (go_at_call 251; (with_reducible refine Calls.mono (less_c _ _ _) ?_); rintro e w1 ⟨rfl, rfl⟩)
        refine ⟨⟨lo, (lo + hi) / 2, rfl, val_int (by omega), by omega, by omega, trivial, H1, Lib.hid (fun j h1 h2 => ?_)⟩, by simp [intOf]; omega⟩
        have := HM.out ((lo + hi) / 2) j h1 h2
        rw [← Hy.out] at this; omega
    · obtain rfl : lo = hi := by omega
      have hfi := found_iff hhi H1.out H2.out Hs.out
      rw [← HZ.out] at hfi
      by_cases hin : lo < xs.length
      · obtain ⟨b, o, rfl, hc⟩ := h.at (by omega)
        have c1 := hc lo hin
        obtain ⟨y, hy⟩ : ∃ y, y = xs.getD lo 0 := ⟨_, rfl⟩
        rw [← hy] at c1 hfi
        rw [show decide (lo < xs.length) = true by simpa using hin, Bool.true_and] at hfi
        clear hy hc HZ
        by_cases hyt : y = t
        · have hz2 : z = true := by rw [hfi]; simpa using hyt
          subst hz2
          clear hfi
          go_wp2_with (go_at_call 252; (with_reducible refine Calls.mono (nan2_c _ _) ?_); rintro e w1 ⟨rfl, rfl⟩)
          refine bodyPost_ret (v := .tuple #[.int .i64 (lo : Int), .bool true]) ?_ rfl ?_
          · simp [results, Tryz.results235, go_sem]
          · exact ⟨⟨_, rfl⟩, rfl⟩
        · have hz2 : z = false := by rw [hfi]; simpa using hyt
          subst hz2
          clear hfi
          go_wp2_with (go_at_call 252; (with_reducible refine Calls.mono (nan2_c _ _) ?_); rintro e w1 ⟨rfl, rfl⟩)
          refine bodyPost_ret (v := .tuple #[.int .i64 (lo : Int), .bool false]) ?_ rfl ?_
          · simp [results, Tryz.results235, go_sem, hyt]
          · exact ⟨⟨_, rfl⟩, rfl⟩
      · rw [show decide (lo < xs.length) = false by simpa using hin, Bool.false_and] at hfi
        clear HZ
        subst hfi
        go_wp2_with (go_at_call 252; (with_reducible refine Calls.mono (nan2_c _ _) ?_); rintro e w1 ⟨rfl, rfl⟩)
        refine bodyPost_ret (v := .tuple #[.int .i64 (lo : Int), .bool false]) ?_ rfl ?_
        · simp [results, Tryz.results235, go_sem]
        · exact ⟨⟨_, rfl⟩, rfl⟩
end Go.Proofs.YtdkfdamihnieiaaGreat
end
