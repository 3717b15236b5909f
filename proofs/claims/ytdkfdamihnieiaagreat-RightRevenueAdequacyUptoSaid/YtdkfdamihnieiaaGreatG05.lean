/- Contracts of package whole, part 10: div. -/
import Derived.Test.YtdkfdamihnieiaaGreatG04
set_option linter.unusedSimpArgs false
set_option linter.unusedVariables false
section
open Go Go.RowKit
namespace Go.Proofs.YtdkfdamihnieiaaGreat
open Go.Proofs
theorem grow_below {n : Nat} {w W W' : World} {v : Value} {base e s k xs} (h : Below n w W) (hg : W.grownBy W' v.ownBlock) (hown : W.ownsRow base e s v k xs) (hn : n ≤ base) (hs : n ≤ W.heap.size) : Below n w W' :=
  h.grown hg hs (fun j hj => Nat.le_trans hn (hown.lt j hj).1)
theorem one_own (W : World) (n0 : Nat) (x : Nat) {v : Int} (hv : v = (x : Int)) (h : n0 ≤ W.heap.size) {n : Nat} (hn : W.heap.size = n := by simp) : (W.alloc (.cells #[.int .u32 v] 94)).ownsRow n0 94 1 (.slice (some ⟨n, 0, none⟩) 1 1) 1 (u32s [x]) := by
  subst hv hn
  exact World.ownsRow_lit W #[.int .u32 (x : Int)] 1 h (by unfold maxLen; omega) rfl
/-- The binary search. -/
structure BsI (y t lo hi : Nat) : Prop where
  lt : lo < hi
  top : hi ≤ 4294967296
  low : lo * y ≤ t
  high : t < hi * y
theorem BsI.mid {y t lo hi : Nat} (h : BsI y t lo hi) (h1 : 1 < hi - lo) : lo < (lo + hi) / 2 ∧ (lo + hi) / 2 < hi ∧ (lo + hi) / 2 < 4294967296 := by
  have := h.lt; have := h.top; omega
theorem BsI.fin {y t lo hi : Nat} (h : BsI y t lo hi) (h1 : ¬ 1 < hi - lo) (hy : 0 < y) : lo = t / y ∧ t - lo * y = t % y := by
  have h2 := h.lt
  have h3 : hi = lo + 1 := by omega
  have h4 := h.high
  rw [h3] at h4
  have : lo = t / y := by
    refine Nat.le_antisymm ((Nat.le_div_iff_mul_le hy).2 h.low) ?_
    have := (Nat.div_lt_iff_lt_mul hy).2 h4
    omega
  refine ⟨this, ?_⟩
  have h5 := Nat.div_add_mod t y
  rw [← this, Nat.mul_comm] at h5
  omega
theorem BsI.start {y t : Nat} (hy : 0 < y) (h : t < 4294967296 * y) : BsI y t 0 4294967296 := ⟨by omega, by omega, by omega, h⟩
theorem BsI.start1 {y t : Nat} (h : t < y) : BsI y t 0 1 := ⟨by omega, by omega, by omega, by omega⟩
theorem dgl_mul {y m : Nat} (hm : m < 4294967296) {B : Nat} (h : (dg y).length ≤ B) : (dg (y * m)).length ≤ B + 1 := by
  refine dg_length ?_
  rw [pw_succ, Nat.mul_comm]
  exact Nat.mul_lt_mul'' hm (Nat.lt_of_lt_of_le (dg_length_lt y) (pw_mono h))
theorem u64_lit : (1 : Int) = ((1 : Nat) : Int) := rfl
set_option maxRecDepth 100000 in
set_option maxHeartbeats 4000000 in
/-- The long division. -/
theorem div_long {ok1 ok2 w va vb a y} (h1 : Wd ok1 w va a) (h2 : Wd ok2 w vb (dg y)) (ha : a.length ≤ 1000000000) (hb : (dg y).length ≤ 900000000) (hy : 0 < y) (hne : (dg y).length ≠ 1) :
    Calls Tryz.prog 250 #[va, vb] w fun e w' => ∃ A1 l1 c1 A2 l2 c2, e = .returned (.tuple #[.slice A1 l1 c1, .slice A2 l2 c2]) ∧ Below w.heap.size w w' ∧ Wd (fresh w) w' (.slice A1 l1 c1) (dg (wv a / y)) ∧ Wd (fresh w) w' (.slice A2 l2 c2) (dg (wv a % y)) := by
  obtain ⟨A1, c1, rfl, r1⟩ := h1
  obtain ⟨A2, l2, c2, rfl⟩ := h2.shape
  obtain ⟨i0, hi, hz0, hz1, hz2⟩ := info_parts' Tryz.info94
  have hl2 := h2.len_eq
  have hmk := make_u32 w (a.length : Int) (by omega) (by omega)
  have hne' : ((l2 : Int) == 1) = false := by simp; omega
  have Hne := Lib.hid hne
  clear hne
  have Hl2 := Lib.hid hl2
  clear hl2
  go_enter Tryz.func250, Tryz.ntmps250
  go_wp2
  clear hmk
  go_loopw [5, 35] (fun rv i wr => ∃ (k r : Nat) (out : List Nat) (A : Option Addr) (l c : Nat), k ≤ a.length ∧ i = .int .i64 (k : Int) ∧ rv = .slice A l c ∧ Wd (fun j => w.heap.size < j) wr (.slice A l c) (dg r) ∧ Blk wr w.heap.size 94 (u32s out) ∧ Below w.heap.size w wr ∧ SmI a y k r out) (fun _ i _ => a.length - (intOf i).toNat)
  case atStart => exact ⟨0, 0, _, none, 0, 0, Nat.zero_le _, rfl, rfl, by rw [dg_zero]; exact Wd.nil, Blk.new w _ 94, bal (b0 _), SmI.start a y⟩
  case round =>
    obtain ⟨k, r, out, Ar, lr, cr, hk, rfl, rfl, hr, hown, hbl, hM⟩ := hrel
    obtain ⟨wo, rfl⟩ : ∃ wo : World, wo = wr := ⟨_, rfl⟩
    have hr2 : r < y := by rw [hM.rem]; exact Nat.mod_lt _ hy
    by_cases hlt : k < a.length
    · obtain ⟨bA, oA, rfl, _, cA⟩ := r1.cells (by omega)
      obtain ⟨hst0, hq2⟩ := hM.step r1.okw hy hlt
      have hst := Lib.hid hst0
      clear hst0
      have hpe : (a.length : Int) - 1 - (k : Int) = ((a.length - 1 - k : Nat) : Int) := by omega
      have hpl : a.length - 1 - k < a.length := by omega
      have h1 := r1.okw.getD (a.length - 1 - k)
      generalize a.length - 1 - k = p at *
      have cAk := (hbl.cell (p := ⟨bA, oA + p, none⟩) (World.block_lt_of_cell? w _ (cA _ hpl))).trans (cA _ hpl)
      clear cA
      have hol : p < out.length := by rw [hM.len]; omega
      generalize hwx : wd a p = x at *
      have HX : Hid (x = ((a.getD p 0 : Nat) : Int)) := by unfold Hid; rw [← hwx]; rfl
      clear hwx
      generalize hap : a.getD p 0 = ap at *
      clear hap
      have hlr : (dg r).length ≤ 900000000 := Nat.le_trans (dg_length (Nat.lt_trans hr2 (dg_length_lt y))) hb
      have hsz : w.heap.size < wo.heap.size := hown.lt
      obtain ⟨n1, n2, n3⟩ := (hr.al (o := .cells #[.int .u32 x] 94)).news
      have H1 : Hid (1 + lr ≤ maxLen) := by unfold Hid maxLen; rw [hr.len_eq]; omega
      have H2 : Hid ((1 + lr) * 4 ≤ 140737488355328) := by unfold Hid; rw [hr.len_eq]; omega
      have HN1 := Lib.hid n1
      have HN2 := Lib.hid n2
      have HN3 := Lib.hid n3
      have HO := Lib.hid (one_own wo (w.heap.size + 1) ap HX.out hsz rfl)
      clear n1 n2 n3
      have hb1 : w.heap.size + 1 ≤ (wo.alloc (.cells #[.int .u32 x] 94)).heap.size := by simp; omega
      have HR2 := Lib.hid hr2
      have HH1 := Lib.hid h1
      have HHM := Lib.hid hM
      have HLR := Lib.hid hr.len_eq
      clear hr2 h1 hM
      have hblA := hbl
      have hownA := hown
      clear hbl hown
      have HBL := Lib.hid hblA
      have HOW := Lib.hid hownA
      clear hblA hownA
      have hwt : wv (ap :: dg r) = r * 4294967296 + ap := by rw [show ∀ x l, wv (x :: l) = x + 4294967296 * wv l from fun _ _ => rfl, wv_dg]; omega
      have htb : r * 4294967296 + ap < 4294967296 * y := by have := HR2.out; have := HH1.out; omega
      have hb0 : (dg y).length ≤ 1000000000 := by omega
      have hlt2 : (dg (r * 4294967296 + ap)).length ≤ 900000001 := by
        refine dg_length (Nat.lt_of_lt_of_le htb ?_)
        rw [pw_succ]
        exact Nat.mul_le_mul_left _ (Nat.le_of_lt (Nat.lt_of_lt_of_le (dg_length_lt y) (pw_mono hb)))
      generalize hgt : r * 4294967296 + ap = t at *
      have Hwt := Lib.hid hwt
      clear hwt hgt
      obtain ⟨hi0, hs0⟩ : ∃ h0 : Nat, BsI y t 0 h0 ∧ h0 = (if (dg t).length < (dg y).length then 1 else 4294967296) := by
        by_cases hc : (dg t).length < (dg y).length
        · exact ⟨1, BsI.start1 (by
            have := dg_length_lt t
            rcases Nat.lt_or_ge t y with h | h
            · exact h
            · exact absurd (dg_length (Nat.lt_of_le_of_lt h (dg_length_lt t))) (by omega)), by simp [hc]⟩
        · exact ⟨_, BsI.start hy htb, by simp [hc]⟩
      by_cases hc : (dg t).length < (dg y).length
      · rw [if_pos hc] at hs0
        obtain ⟨hs0, rfl⟩ := hs0
        have hcc := Lib.hid hc
        clear hc
        go_wp2_with (first
          | (at_builtin; refine wpList_append_x rfl (.tmp 47) (.tmp 48) 40 rfl (w.heap.size + 1) 94 i0 (.int .u32 0) 1 4 Tryz.under40 hi hz0 hz1 hz2 rfl (by decide) _ _ _ rfl HO.out Ar lr cr (u32s (dg r)) rfl HN1.out HN2.out HN3.out u32s_one H1.out H2.out hb1 ?_))
        intro A' c' w1 hown' hgrow
        have hw1 : Wd (fun j => w.heap.size < j) w1 (.slice A' (1 + lr) c') (ap :: dg r) :=
          (own_wd (n0 := w.heap.size + 1) (n := 1 + lr) (ws := ap :: dg r) hown' (by intro z hz; rcases List.mem_cons.1 hz with rfl | hz; exact HH1.out; exact okw_dg _ _ hz)).mono (fun k _ hk => hk)
        have hbl1 : Below w.heap.size w w1 := grow_below (bthen HBL.out (bal (b0 _))) hgrow HO.out (by omega) (by simp; omega)
        have hown1 : Blk w1 w.heap.size 94 (u32s out) := (hgrow.block _ (by simp; omega) (fun e => by simp [Value.ownBlock] at e; omega)).trans ((Below.heap_alloc _ _ _ (by omega)).trans HOW.out)
        clear hown' hgrow
        have HB1 := Lib.hid hbl1
        have HO1 := Lib.hid hown1
        clear hbl1 hown1
        go_wp2_with (go_at_call 173; (with_reducible refine Calls.mono (trim_c hw1) ?_); rintro e w2 ⟨A3, l3, c3, rfl, hv1, rfl⟩; rw [Hwt.out] at hv1; have hc3 : (l3 : Int) < (l2 : Int) := (by have := hv1.len_eq; have := Hl2.out; have := hcc.out; omega))
        clear hc3
        go_loopw [10, 11] (fun lov hiv wr' => ∃ lo hi : Nat, lov = .int .u64 (lo : Int) ∧ hiv = .int .u64 (hi : Int) ∧ BsI y t lo hi ∧ Below w1.heap.size w1 wr') (fun lo hi _ => (intOf hi).toNat - (intOf lo).toNat)
        case atStart => exact ⟨0, 1, rfl, rfl, hs0, b0 _⟩
        case round =>
          obtain ⟨lo, hi', rfl, rfl, hbs, hbi⟩ := hrel
          clear hs0
          have hv2 := hv1.below hbi
          have g1 := hbs.lt
          have g2 := hbs.top
          have HB2 := Lib.hid (HB1.out.trans (hbi.mono HB1.out.size))
          have hsz2 : w.heap.size < wr.heap.size := by have := (HO1.out.below hbi).lt; omega
          by_cases h1 : 1 < hi' - lo
          · obtain ⟨m1, m2, m3⟩ := hbs.mid h1
            have e1 : ((lo : Int) + (hi' : Int)).tdiv 2 = (((lo + hi') / 2 : Nat) : Int) := by rw [show ((lo : Int) + (hi' : Int)) = ((lo + hi' : Nat) : Int) by omega]; rw [show (2 : Int) = ((2 : Nat) : Int) from rfl, Int.ofNat_tdiv]
            generalize (lo + hi') / 2 = mid at *
            have Hbs := Lib.hid hbs
            clear hbs
            by_cases hle : y * mid ≤ t
            · have HLE := Lib.hid hle
              clear hle
              go_wp2_with (first
                | (go_at_call 172; (with_reducible refine Calls.mono (mul_c (b := [mid]) (h2.below ((bthen HB2.out (bal (b0 _))))) (Wd.mk (Rd.one (by omega) m3 rfl) rfl) hb0 (by simp)) ?_); rintro e w4 ⟨A6, l6, c6, rfl, hb4, r6, hr6, hrv6, _⟩; rw [wv_dg, wv_one] at hrv6; have HR6 := Lib.hid hrv6; clear hrv6)
                | (go_at_call 173; (with_reducible refine Calls.mono (trim_c hr6) ?_); rintro e w5 ⟨A7, l7, c7, rfl, hv7, rfl⟩; rw [HR6.out] at hv7)
                | (go_at_call 228; (with_reducible refine Calls.mono (cmp_mag hv7 ((hv2.al).below hb4) (Nat.le_trans (dgl_mul m3 hb) (by omega)) (Nat.le_trans hlt2 (by omega))) ?_); rintro e w6 ⟨c, rfl, hcm, hb6⟩; have hcl : c ≤ 0 := hcm.le.2 HLE.out))
              refine ⟨⟨mid, hi', rfl, rfl, ⟨m2, g2, (by rw [Nat.mul_comm]; exact HLE.out), Hbs.out.high⟩, bthen (bthen (bthen hbi (bal (b0 _))) hb4) hb6⟩, by simp [intOf]; omega⟩
            · have HLE := Lib.hid hle
              clear hle
              go_wp2_with (first
                | (go_at_call 172; (with_reducible refine Calls.mono (mul_c (b := [mid]) (h2.below ((bthen HB2.out (bal (b0 _))))) (Wd.mk (Rd.one (by omega) m3 rfl) rfl) hb0 (by simp)) ?_); rintro e w4 ⟨A6, l6, c6, rfl, hb4, r6, hr6, hrv6, _⟩; rw [wv_dg, wv_one] at hrv6; have HR6 := Lib.hid hrv6; clear hrv6)
                | (go_at_call 173; (with_reducible refine Calls.mono (trim_c hr6) ?_); rintro e w5 ⟨A7, l7, c7, rfl, hv7, rfl⟩; rw [HR6.out] at hv7)
                | (go_at_call 228; (with_reducible refine Calls.mono (cmp_mag hv7 ((hv2.al).below hb4) (Nat.le_trans (dgl_mul m3 hb) (by omega)) (Nat.le_trans hlt2 (by omega))) ?_); rintro e w6 ⟨c, rfl, hcm, hb6⟩; have hcl : 0 < c := (by have := hcm.le; have := HLE.out; omega)))
              refine ⟨⟨lo, mid, rfl, rfl, ⟨m1, by omega, Hbs.out.low, (by rw [Nat.mul_comm]; have := HLE.out; omega)⟩, bthen (bthen (bthen hbi (bal (b0 _))) hb4) hb6⟩, by simp [intOf]; omega⟩
          · obtain ⟨f1, f2⟩ := hbs.fin h1 hy
            have hlow := Lib.hid hbs.low
            have F1 := Lib.hid f1
            have F2 := Lib.hid f2
            have hlo : lo < 4294967296 := by omega
            clear f1 f2 hbs
            have hown2 := HO1.out.below hbi
            have fO := hown2.frozen p
            have cO := (hown2.cell p).trans (u32s_get hol)
            have HO2 := Lib.hid hown2
            clear hown2
            have hne3 : wr.heap.size ≠ w.heap.size := by omega
            go_wp2_with (first
                | (go_at_call 172; (with_reducible refine Calls.mono (mul_c (b := [lo]) ((h2.below (bset HB2.out (Nat.le_refl _))).al) (Wd.mk (Rd.one (by omega) hlo (by simp)) rfl) hb0 (by simp)) ?_); rintro e w4 ⟨A6, l6, c6, rfl, hb4, r6, hr6, hrv6, _⟩; rw [wv_dg, wv_one] at hrv6; have HR6 := Lib.hid hrv6; clear hrv6)
                | (go_at_call 229; (with_reducible refine Calls.mono (sub_mag (((hv2.set (by simp)).al).below hb4) hv7 (by omega) (by have := dgl_mul hlo hb; omega) (by rw [wv_dg, wv_dg, Nat.mul_comm]; exact hlow.out)) ?_); rintro e w6 ⟨A8, l8, c8, rfl, hb6, r8, hr8, hrv8, _⟩; rw [wv_dg, wv_dg, Nat.mul_comm y lo, F2.out] at hrv8; have HR8 := Lib.hid hrv8; clear hrv8)
                | (go_at_call 173; (with_reducible refine Calls.mono (trim_c hr6) ?_); rintro e w5 ⟨A7, l7, c7, rfl, hv7, rfl⟩; rw [HR6.out] at hv7; clear hr6)
                | (go_at_call 173; (with_reducible refine Calls.mono (trim_c hr8) ?_); rintro e w7 ⟨A9, l9, c9, rfl, hv9, rfl⟩; rw [HR8.out] at hv9))
            have hst' := hst.out
            rw [← F1.out] at hst'
            have hbw := bthen (bthen (bal (o := .cells #[.int .u32 (lo : Int)] 94) (bset (v := .int .u32 (lo : Int)) (a := ⟨w.heap.size, p, none⟩) HB2.out (Nat.le_refl _))) hb4) hb6
            refine ⟨⟨k + 1, t % y, _, A9, l9, c9, by omega, val_int (by omega), rfl, hv9.mono (fun k _ hk => by have := hb4.size; simp [fresh] at *; omega), ((((HO2.out.setW p lo rfl).al).below hb4).below hb6), hbw, hst'⟩, by simp [intOf]; omega⟩
      · rw [if_neg hc] at hs0
        obtain ⟨hs0, rfl⟩ := hs0
        have hcc := Lib.hid hc
        clear hc
        go_wp2_with (first
          | (at_builtin; refine wpList_append_x rfl (.tmp 47) (.tmp 48) 40 rfl (w.heap.size + 1) 94 i0 (.int .u32 0) 1 4 Tryz.under40 hi hz0 hz1 hz2 rfl (by decide) _ _ _ rfl HO.out Ar lr cr (u32s (dg r)) rfl HN1.out HN2.out HN3.out u32s_one H1.out H2.out hb1 ?_))
        intro A' c' w1 hown' hgrow
        have hw1 : Wd (fun j => w.heap.size < j) w1 (.slice A' (1 + lr) c') (ap :: dg r) :=
          (own_wd (n0 := w.heap.size + 1) (n := 1 + lr) (ws := ap :: dg r) hown' (by intro z hz; rcases List.mem_cons.1 hz with rfl | hz; exact HH1.out; exact okw_dg _ _ hz)).mono (fun k _ hk => hk)
        have hbl1 : Below w.heap.size w w1 := grow_below (bthen HBL.out (bal (b0 _))) hgrow HO.out (by omega) (by simp; omega)
        have hown1 : Blk w1 w.heap.size 94 (u32s out) := (hgrow.block _ (by simp; omega) (fun e => by simp [Value.ownBlock] at e; omega)).trans ((Below.heap_alloc _ _ _ (by omega)).trans HOW.out)
        clear hown' hgrow
        have HB1 := Lib.hid hbl1
        have HO1 := Lib.hid hown1
        clear hbl1 hown1
        go_wp2_with (go_at_call 173; (with_reducible refine Calls.mono (trim_c hw1) ?_); rintro e w2 ⟨A3, l3, c3, rfl, hv1, rfl⟩; rw [Hwt.out] at hv1; have hc4 : ¬ (l3 < l2) := (by have := hv1.len_eq; have := Hl2.out; have := hcc.out; omega); have hc3 : decide (l3 < l2) = false := (by simpa using hc4); clear hc4)
        clear hc3
        go_loopw [10, 11] (fun lov hiv wr' => ∃ lo hi : Nat, lov = .int .u64 (lo : Int) ∧ hiv = .int .u64 (hi : Int) ∧ BsI y t lo hi ∧ Below w1.heap.size w1 wr') (fun lo hi _ => (intOf hi).toNat - (intOf lo).toNat)
        case atStart => exact ⟨0, 4294967296, rfl, rfl, hs0, b0 _⟩
        case round =>
          obtain ⟨lo, hi', rfl, rfl, hbs, hbi⟩ := hrel
          clear hs0
          have hv2 := hv1.below hbi
          have g1 := hbs.lt
          have g2 := hbs.top
          have HB2 := Lib.hid (HB1.out.trans (hbi.mono HB1.out.size))
          have hsz2 : w.heap.size < wr.heap.size := by have := (HO1.out.below hbi).lt; omega
          by_cases h1 : 1 < hi' - lo
          · obtain ⟨m1, m2, m3⟩ := hbs.mid h1
            have e1 : ((lo : Int) + (hi' : Int)).tdiv 2 = (((lo + hi') / 2 : Nat) : Int) := by rw [show ((lo : Int) + (hi' : Int)) = ((lo + hi' : Nat) : Int) by omega]; rw [show (2 : Int) = ((2 : Nat) : Int) from rfl, Int.ofNat_tdiv]
            generalize (lo + hi') / 2 = mid at *
            have Hbs := Lib.hid hbs
            clear hbs
            by_cases hle : y * mid ≤ t
            · have HLE := Lib.hid hle
              clear hle
              go_wp2_with (first
                | (go_at_call 172; (with_reducible refine Calls.mono (mul_c (b := [mid]) (h2.below ((bthen HB2.out (bal (b0 _))))) (Wd.mk (Rd.one (by omega) m3 rfl) rfl) hb0 (by simp)) ?_); rintro e w4 ⟨A6, l6, c6, rfl, hb4, r6, hr6, hrv6, _⟩; rw [wv_dg, wv_one] at hrv6; have HR6 := Lib.hid hrv6; clear hrv6)
                | (go_at_call 173; (with_reducible refine Calls.mono (trim_c hr6) ?_); rintro e w5 ⟨A7, l7, c7, rfl, hv7, rfl⟩; rw [HR6.out] at hv7)
                | (go_at_call 228; (with_reducible refine Calls.mono (cmp_mag hv7 ((hv2.al).below hb4) (Nat.le_trans (dgl_mul m3 hb) (by omega)) (Nat.le_trans hlt2 (by omega))) ?_); rintro e w6 ⟨c, rfl, hcm, hb6⟩; have hcl : c ≤ 0 := hcm.le.2 HLE.out))
              refine ⟨⟨mid, hi', rfl, rfl, ⟨m2, g2, (by rw [Nat.mul_comm]; exact HLE.out), Hbs.out.high⟩, bthen (bthen (bthen hbi (bal (b0 _))) hb4) hb6⟩, by simp [intOf]; omega⟩
            · have HLE := Lib.hid hle
              clear hle
              go_wp2_with (first
                | (go_at_call 172; (with_reducible refine Calls.mono (mul_c (b := [mid]) (h2.below ((bthen HB2.out (bal (b0 _))))) (Wd.mk (Rd.one (by omega) m3 rfl) rfl) hb0 (by simp)) ?_); rintro e w4 ⟨A6, l6, c6, rfl, hb4, r6, hr6, hrv6, _⟩; rw [wv_dg, wv_one] at hrv6; have HR6 := Lib.hid hrv6; clear hrv6)
                | (go_at_call 173; (with_reducible refine Calls.mono (trim_c hr6) ?_); rintro e w5 ⟨A7, l7, c7, rfl, hv7, rfl⟩; rw [HR6.out] at hv7)
                | (go_at_call 228; (with_reducible refine Calls.mono (cmp_mag hv7 ((hv2.al).below hb4) (Nat.le_trans (dgl_mul m3 hb) (by omega)) (Nat.le_trans hlt2 (by omega))) ?_); rintro e w6 ⟨c, rfl, hcm, hb6⟩; have hcl : 0 < c := (by have := hcm.le; have := HLE.out; omega)))
              refine ⟨⟨lo, mid, rfl, rfl, ⟨m1, by omega, Hbs.out.low, (by rw [Nat.mul_comm]; have := HLE.out; omega)⟩, bthen (bthen (bthen hbi (bal (b0 _))) hb4) hb6⟩, by simp [intOf]; omega⟩
          · obtain ⟨f1, f2⟩ := hbs.fin h1 hy
            have hlow := Lib.hid hbs.low
            have F1 := Lib.hid f1
            have F2 := Lib.hid f2
            have hlo : lo < 4294967296 := by omega
            clear f1 f2 hbs
            have hown2 := HO1.out.below hbi
            have fO := hown2.frozen p
            have cO := (hown2.cell p).trans (u32s_get hol)
            have HO2 := Lib.hid hown2
            clear hown2
            have hne3 : wr.heap.size ≠ w.heap.size := by omega
            go_wp2_with (first
                | (go_at_call 172; (with_reducible refine Calls.mono (mul_c (b := [lo]) ((h2.below (bset HB2.out (Nat.le_refl _))).al) (Wd.mk (Rd.one (by omega) hlo (by simp)) rfl) hb0 (by simp)) ?_); rintro e w4 ⟨A6, l6, c6, rfl, hb4, r6, hr6, hrv6, _⟩; rw [wv_dg, wv_one] at hrv6; have HR6 := Lib.hid hrv6; clear hrv6)
                | (go_at_call 229; (with_reducible refine Calls.mono (sub_mag (((hv2.set (by simp)).al).below hb4) hv7 (by omega) (by have := dgl_mul hlo hb; omega) (by rw [wv_dg, wv_dg, Nat.mul_comm]; exact hlow.out)) ?_); rintro e w6 ⟨A8, l8, c8, rfl, hb6, r8, hr8, hrv8, _⟩; rw [wv_dg, wv_dg, Nat.mul_comm y lo, F2.out] at hrv8; have HR8 := Lib.hid hrv8; clear hrv8)
                | (go_at_call 173; (with_reducible refine Calls.mono (trim_c hr6) ?_); rintro e w5 ⟨A7, l7, c7, rfl, hv7, rfl⟩; rw [HR6.out] at hv7; clear hr6)
                | (go_at_call 173; (with_reducible refine Calls.mono (trim_c hr8) ?_); rintro e w7 ⟨A9, l9, c9, rfl, hv9, rfl⟩; rw [HR8.out] at hv9))
            have hst' := hst.out
            rw [← F1.out] at hst'
            have hbw := bthen (bthen (bal (o := .cells #[.int .u32 (lo : Int)] 94) (bset (v := .int .u32 (lo : Int)) (a := ⟨w.heap.size, p, none⟩) HB2.out (Nat.le_refl _))) hb4) hb6
            refine ⟨⟨k + 1, t % y, _, A9, l9, c9, by omega, val_int (by omega), rfl, hv9.mono (fun k _ hk => by have := hb4.size; simp [fresh] at *; omega), ((((HO2.out.setW p lo rfl).al).below hb4).below hb6), hbw, hst'⟩, by simp [intOf]; omega⟩
    · obtain rfl : k = a.length := by omega
      have g1 : Wd (fresh w) wo (.slice (some ⟨w.heap.size, 0, none⟩) a.length a.length) out := Wd.mk (hown.rd (Nat.le_refl _) hM.ok (by rw [hM.len]; exact Nat.le_refl _) (by unfold maxLen; omega)) hM.len.symm
      go_wp2_with (go_at_call 173; (with_reducible refine Calls.mono (trim_c g1) ?_); rintro e w1 ⟨A1, l1, c1, rfl, h1, rfl⟩)
      go_ret2
      have hv := hM.val
      have hr3 := hM.rem
      rw [Nat.sub_self, List.drop_zero, List.drop_zero] at hv
      rw [Nat.sub_self, List.drop_zero] at hr3
      rw [hv] at h1
      rw [hr3] at hr
      exact ⟨A1, l1, c1, Ar, lr, cr, rfl, hbl, h1, hr.mono (fun k _ hk => Nat.le_of_lt hk)⟩
end Go.Proofs.YtdkfdamihnieiaaGreat
end
section
/- Contracts of package whole, part 11: div, DivMod (exact), GCD, IsCanonical. -/
open Go Go.RowKit
namespace Go.Proofs.YtdkfdamihnieiaaGreat
open Go.Proofs
theorem Wd.unique {ok1 ok2 w v ws us} (h1 : Wd ok1 w v ws) (h2 : Wd ok2 w v us) : ws = us := by
  obtain ⟨A, c, rfl, r1⟩ := h1
  have e := h2.len_eq
  have r2 := h2.rd
  refine List.ext_getElem e (fun j h3 h4 => ?_)
  obtain ⟨b, o, rfl, _, c1⟩ := r1.cells (by omega)
  obtain ⟨b', o', e', _, c2⟩ := r2.cells (by omega)
  injection e' with e'
  injection e' with e1 e2
  subst e1 e2
  have := (c1 j h3).symm.trans (c2 j h4)
  simp only [Option.some.injEq, Value.int.injEq, true_and, wd, Int.natCast_inj] at this
  rw [List.getD_eq_getElem?_getD, List.getD_eq_getElem?_getD, List.getElem?_eq_getElem h3, List.getElem?_eq_getElem h4] at this
  exact this
open Classical in
/-- What a slice of words holds. -/
noncomputable def wvOf (w : World) (v : Value) : Nat := if h : ∃ q, Wd (fun _ => True) w v (dg q) then Classical.choose h else 0
theorem wvOf_eq {ok w v q} (h : Wd ok w v (dg q)) : wvOf w v = q := by
  have h' : ∃ q, Wd (fun _ => True) w v (dg q) := ⟨q, h.mono (fun _ _ _ => trivial)⟩
  unfold wvOf
  rw [dif_pos h']
  have := (Classical.choose_spec h').unique h
  rw [← wv_dg (Classical.choose h'), this, wv_dg]
theorem dg_single {y : Nat} (h : (dg y).length = 1) : dg y = [y] ∧ y ≠ 0 ∧ y < 4294967296 := by
  have h0 : y ≠ 0 := dg_length_pos.1 (by omega)
  have h1 := dg_length_lt y
  rw [h, pw_one] at h1
  exact ⟨dg_one h0 h1, h0, h1⟩
/-- Division of magnitudes. -/
theorem div_c {ok1 ok2 w va vb a y} (h1 : Wd ok1 w va a) (h2 : Wd ok2 w vb (dg y)) (ha : a.length ≤ 900000000) (hb : (dg y).length ≤ 900000000) (hy : 0 < y) :
    Calls Tryz.prog 250 #[va, vb] w fun e w' => ∃ A1 l1 c1 A2 l2 c2, e = .returned (.tuple #[.slice A1 l1 c1, .slice A2 l2 c2]) ∧ Below w.heap.size w w' ∧ Wd (fresh w) w' (.slice A1 l1 c1) (dg (wv a / y)) ∧ Wd (fresh w) w' (.slice A2 l2 c2) (dg (wv a % y)) := by
  by_cases hne : (dg y).length = 1
  · obtain ⟨e, y0, y1⟩ := dg_single hne
    obtain ⟨A2, l2, c2, rfl⟩ := h2.shape
    rw [e] at h2
    obtain rfl : l2 = 1 := h2.len_eq
    obtain ⟨A1, l1, c1, rfl⟩ := h1.shape
    obtain ⟨b2, o2, rfl, hok, hcell⟩ := h2.rd.cells (by simp)
    have c0 := hcell 0 (by simp)
    rw [Nat.add_zero, show wd [y] 0 = (y : Int) from rfl] at c0
    have hyi : (y : Int) < 4294967296 := by omega
    have hmy : wv a % y < 4294967296 := by have := Nat.mod_lt (wv a) hy; omega
    clear e hne hcell
    go_enter Tryz.func250, Tryz.ntmps250
    go_wp2_with (first
      | (go_at_call 257; (with_reducible refine Calls.mono (small_c y h1 (by omega) hy y1) ?_); rintro e w1 ⟨A3, l3, c3, rfl, hb1, hv1⟩; generalize hgm : wv a % y = m at *; have HGM := Lib.hid hgm; clear hgm; have hmi : (m : Int) < 4294967296 := (by omega))
      | (go_at_call 173; (with_reducible refine Calls.mono (trim_c (Wd.mk (Rd.one (a := m) (by omega) hmy rfl) rfl)) ?_); rintro e w2 ⟨A4, l4, c4, rfl, hv2, rfl⟩; rw [wv_one] at hv2))
    go_ret2
    rw [HGM.out]
    exact ⟨A3, l3, c3, A4, l4, c4, rfl, bthen hb1 (bal (b0 _)), hv1.al, hv2.mono (fun k _ hk => by have := hb1.size; simp only [fresh] at *; omega)⟩
  · exact div_long h1 h2 (by omega) hb hy hne
theorem sg_div {n1 n2 : Bool} {x y : Nat} (hb : 0 < sg n2 y) (hd : sg n2 y ∣ sg n1 x) : sg n1 (x / y) = sg n1 x / sg n2 y ∧ x % y = 0 ∧ 0 < y ∧ n2 = false := by
  cases n2 with
  | true => simp [sg] at hb; omega
  | false =>
    simp only [sg, Bool.false_eq_true, if_false] at hb hd ⊢
    have hy : 0 < y := by omega
    have hdv : y ∣ x := by
      cases n1 <;> simp at hd <;> exact Int.natCast_dvd_natCast.1 hd
    obtain ⟨c, rfl⟩ := hdv
    have e : y * c / y = c := Nat.mul_div_cancel_left c hy
    rw [e]
    refine ⟨?_, Nat.mul_mod_right _ _, hy, trivial⟩
    cases n1 with
    | true => simp; rw [← Int.mul_neg]; exact (Int.mul_ediv_cancel_left _ (by omega)).symm
    | false => simp; exact (Int.mul_ediv_cancel_left _ (by omega)).symm
set_option maxRecDepth 100000 in
set_option maxHeartbeats 4000000 in
/-- The exact division by a positive number. -/
theorem DivMod_x {ok1 ok2 w va vb a b A B} (h1 : isZ ok1 w va a A) (h2 : isZ ok2 w vb b B) (hA : A ≤ 900000000) (hB : B ≤ 900000000) (hpos : 0 < b) (hd : b ∣ a) :
    Calls Tryz.prog 231 #[va, vb] w fun e w' => ∃ n A1 l c m A2 l2 c2, e = .returned (.tuple #[.agg #[.bool n, .slice A1 l c], .agg #[.bool m, .slice A2 l2 c2], .int .i64 0]) ∧ Below w.heap.size w w' ∧ isZc (fresh w) w' (.agg #[.bool n, .slice A1 l c]) (a / b) A := by
  obtain ⟨n1, A1, l1, c1, rfl⟩ := h1.shape
  obtain ⟨n2, A2, l2, c2, rfl⟩ := h2.shape
  obtain ⟨ws1, hw1, hl1, hz1⟩ := h1.parts
  obtain ⟨ws2, hw2, hl2, hz2⟩ := h2.parts
  have hd1 := dgl hw1.okw hl1
  have hd2 := dgl hw2.okw hl2
  have hx := wv_len hw1.okw hl1
  generalize hex : wv ws1 = x at *
  generalize hey : wv ws2 = y at *
  have Hx := Lib.hid hex
  have Hy := Lib.hid hey
  rw [hz1, hz2] at hd
  rw [hz2] at hpos
  obtain ⟨s1, s2, s3, s4⟩ := sg_div hpos hd
  rw [← hz1, ← hz2] at s1
  have HS1 := Lib.hid s1
  have HS2 := Lib.hid s2
  subst s4
  have hq : x / y < pw A := Nat.lt_of_le_of_lt (Nat.div_le_self _ _) hx
  have hyl : (dg y).length ≠ 0 := by have := (dg_length_pos (n := y)); omega
  have HYL := Lib.hid hyl
  clear hyl hex hey hz1 hz2 h1 h2 s1 s2
  obtain ⟨z0, z1, z2, z3, z4, z5, z6⟩ := z4 w.heap.size
  have z7 : w.heap.size + 1 + 1 + 1 ≠ w.heap.size + 1 + 1 := by omega
  have z8 : w.heap.size + 1 + 1 + 1 ≠ w.heap.size + 1 := by omega
  have z9 : w.heap.size + 1 + 1 ≠ w.heap.size + 1 := by omega
  cases n1
  · go_enter Tryz.func231, Tryz.ntmps231
    go_wp2
    go_region_held3 (fun w' => ∀ b o, b < w.heap.size + 1 + 1 → w'.cell? ⟨b, o, none⟩ = ((((w.alloc (Obj.cells #[Value.bool false, .slice A1 l1 c1] 42)).alloc (Obj.cells #[Value.bool false, .slice A2 l2 c2] 42)).alloc (Obj.cells #[Value.bool false, Value.slice none 0 0] 42)).alloc (Obj.cells #[Value.bool false, Value.slice none 0 0] 42)).cell? ⟨b, o, none⟩)
        (first
          | (exact fun _ _ _ => rfl)
          | assumption
          | (exact keep_of (by assumption) (by omega))
          | (exact keep_dr (by assumption) (by omega))
          | (exact keep_set1 (by assumption) (by omega) (by omega))
          | (exact keep_set2 (by assumption) (by omega) (by omega))
          | (exact keep_set4 (by assumption) (by omega) (by omega)))
        (first
          | (go_at_call 173; (with_reducible refine Calls.mono (trim_c (hw1.below (bdr (bal (bal (bal (bal (b0 _)))))))) ?_); rintro e w1 ⟨A3, l3, c3, rfl, hv1, rfl⟩; rw [Hx.out] at hv1)
          | (go_at_call 173; (with_reducible refine Calls.mono (trim_c (hw2.below (bdr (bal (bal (bal (bal (b0 _)))))))) ?_); rintro e w1 ⟨A4, l4, c4, rfl, hv2, rfl⟩; rw [Hy.out] at hv2; have hl4 : ((l4 : Int) == 0) = false := (by have h9 := hv2.len_eq; have h8 := HYL.out; simp; omega)))
    go_wp2_with (first
      | (go_at_call 250; (with_reducible refine Calls.mono (div_c hv1 hv2 (by omega) (by omega) s3) ?_); rintro e w1 ⟨A6, l6, c6, A7, l7, c7, rfl, hb1, hq6, hr7⟩; rw [wv_dg] at hq6 hr7; have B1 := Bx.step ((Bx.refl (n := w.heap.size + 4) ((((w.alloc (Obj.cells #[Value.bool false, .slice A1 l1 c1] 42)).alloc (Obj.cells #[Value.bool false, .slice A2 l2 c2] 42)).alloc (Obj.cells #[Value.bool false, Value.slice none 0 0] 42)).alloc (Obj.cells #[Value.bool false, Value.slice none 0 0] 42)) (by simp)).dr) hb1; have k1 := B1.cell; rw [HS2.out, dg_zero] at hr7; have hl7 : l7 = 0 := hr7.len_eq; subst hl7)
      | (go_at_call 171; (with_reducible refine Calls.mono (made_c (z := a / b) (B := A) _ hq6 (by rw [wv_dg]; exact HS1.out) (by rw [wv_dg]; exact hq)) ?_); rintro e w2 ⟨n8, A8, l8, c8, rfl, hb2, hr8⟩; have B2 := Bx.step B1 hb2; have k2 := B2.cell)
      | (go_at_call 171; (with_reducible refine Calls.mono (made_c (z := 0) (B := 0) false (hr7.below hb2) rfl (by simp [pw, wv])) ?_); rintro e w3 ⟨n9, A9, l9, c9, rfl, hb3, hr9⟩; have B3 := Bx.step B2 hb3; have k3 := B3.cell; have f3 := B3.frozen))
    refine bodyPost_ret (v := .tuple #[.agg #[.bool n8, .slice A8 l8 c8], .agg #[.bool n9, .slice A9 l9 c9], .int .i64 0]) ?_ rfl ?_
    · simp [results, Tryz.results231, go_sem, k3]
    · refine ⟨n8, A8, l8, c8, n9, A9, l9, c9, rfl, ?_, ?_⟩
      · exact bset (bset (bset (bset (bthen (bthen (bthen (bdr (bal (bal (bal (bal (b0 _)))))) hb1) hb2) hb3) (by (first | omega | (simp; done) | (simp; omega) | (simp [fresh]; done) | (simp [fresh]; omega)))) (by (first | omega | (simp; done) | (simp; omega) | (simp [fresh]; done) | (simp [fresh]; omega)))) (by (first | omega | (simp; done) | (simp; omega) | (simp [fresh]; done) | (simp [fresh]; omega)))) (by (first | omega | (simp; done) | (simp; omega) | (simp [fresh]; done) | (simp [fresh]; omega)))
      · exact ((((((hr8.below hb3).set (by (first | omega | (simp; done) | (simp; omega) | (simp [fresh]; done) | (simp [fresh]; omega)))).set (by (first | omega | (simp; done) | (simp; omega) | (simp [fresh]; done) | (simp [fresh]; omega)))).set (by (first | omega | (simp; done) | (simp; omega) | (simp [fresh]; done) | (simp [fresh]; omega)))).set (by (first | omega | (simp; done) | (simp; omega) | (simp [fresh]; done) | (simp [fresh]; omega))))).mono (fun k _ hk => by simp [fresh] at *; omega) (Nat.le_refl _)
  · go_enter Tryz.func231, Tryz.ntmps231
    go_wp2
    go_region_held3 (fun w' => ∀ b o, b < w.heap.size + 1 + 1 → w'.cell? ⟨b, o, none⟩ = ((((w.alloc (Obj.cells #[Value.bool true, .slice A1 l1 c1] 42)).alloc (Obj.cells #[Value.bool false, .slice A2 l2 c2] 42)).alloc (Obj.cells #[Value.bool false, Value.slice none 0 0] 42)).alloc (Obj.cells #[Value.bool false, Value.slice none 0 0] 42)).cell? ⟨b, o, none⟩)
        (first
          | (exact fun _ _ _ => rfl)
          | assumption
          | (exact keep_of (by assumption) (by omega))
          | (exact keep_dr (by assumption) (by omega))
          | (exact keep_set1 (by assumption) (by omega) (by omega))
          | (exact keep_set2 (by assumption) (by omega) (by omega))
          | (exact keep_set4 (by assumption) (by omega) (by omega)))
        (first
          | (go_at_call 173; (with_reducible refine Calls.mono (trim_c (hw1.below (bdr (bal (bal (bal (bal (b0 _)))))))) ?_); rintro e w1 ⟨A3, l3, c3, rfl, hv1, rfl⟩; rw [Hx.out] at hv1)
          | (go_at_call 173; (with_reducible refine Calls.mono (trim_c (hw2.below (bdr (bal (bal (bal (bal (b0 _)))))))) ?_); rintro e w1 ⟨A4, l4, c4, rfl, hv2, rfl⟩; rw [Hy.out] at hv2; have hl4 : ((l4 : Int) == 0) = false := (by have h9 := hv2.len_eq; have h8 := HYL.out; simp; omega)))
    go_wp2_with (first
      | (go_at_call 250; (with_reducible refine Calls.mono (div_c hv1 hv2 (by omega) (by omega) s3) ?_); rintro e w1 ⟨A6, l6, c6, A7, l7, c7, rfl, hb1, hq6, hr7⟩; rw [wv_dg] at hq6 hr7; have B1 := Bx.step ((Bx.refl (n := w.heap.size + 4) ((((w.alloc (Obj.cells #[Value.bool true, .slice A1 l1 c1] 42)).alloc (Obj.cells #[Value.bool false, .slice A2 l2 c2] 42)).alloc (Obj.cells #[Value.bool false, Value.slice none 0 0] 42)).alloc (Obj.cells #[Value.bool false, Value.slice none 0 0] 42)) (by simp)).dr) hb1; have k1 := B1.cell; rw [HS2.out, dg_zero] at hr7; have hl7 : l7 = 0 := hr7.len_eq; subst hl7)
      | (go_at_call 171; (with_reducible refine Calls.mono (made_c (z := a / b) (B := A) _ hq6 (by rw [wv_dg]; exact HS1.out) (by rw [wv_dg]; exact hq)) ?_); rintro e w2 ⟨n8, A8, l8, c8, rfl, hb2, hr8⟩; have B2 := Bx.step B1 hb2; have k2 := B2.cell)
      | (go_at_call 171; (with_reducible refine Calls.mono (made_c (z := 0) (B := 0) false (hr7.below hb2) rfl (by simp [pw, wv])) ?_); rintro e w3 ⟨n9, A9, l9, c9, rfl, hb3, hr9⟩; have B3 := Bx.step B2 hb3; have k3 := B3.cell; have f3 := B3.frozen))
    refine bodyPost_ret (v := .tuple #[.agg #[.bool n8, .slice A8 l8 c8], .agg #[.bool n9, .slice A9 l9 c9], .int .i64 0]) ?_ rfl ?_
    · simp [results, Tryz.results231, go_sem, k3]
    · refine ⟨n8, A8, l8, c8, n9, A9, l9, c9, rfl, ?_, ?_⟩
      · exact bset (bset (bset (bset (bthen (bthen (bthen (bdr (bal (bal (bal (bal (b0 _)))))) hb1) hb2) hb3) (by (first | omega | (simp; done) | (simp; omega) | (simp [fresh]; done) | (simp [fresh]; omega)))) (by (first | omega | (simp; done) | (simp; omega) | (simp [fresh]; done) | (simp [fresh]; omega)))) (by (first | omega | (simp; done) | (simp; omega) | (simp [fresh]; done) | (simp [fresh]; omega)))) (by (first | omega | (simp; done) | (simp; omega) | (simp [fresh]; done) | (simp [fresh]; omega)))
      · exact ((((((hr8.below hb3).set (by (first | omega | (simp; done) | (simp; omega) | (simp [fresh]; done) | (simp [fresh]; omega)))).set (by (first | omega | (simp; done) | (simp; omega) | (simp [fresh]; done) | (simp [fresh]; omega)))).set (by (first | omega | (simp; done) | (simp; omega) | (simp [fresh]; done) | (simp [fresh]; omega)))).set (by (first | omega | (simp; done) | (simp; omega) | (simp [fresh]; done) | (simp [fresh]; omega))))).mono (fun k _ hk => by simp [fresh] at *; omega) (Nat.le_refl _)
set_option maxRecDepth 100000 in
set_option maxHeartbeats 2000000 in
theorem GCD_c {ok1 ok2 w va vb a b A B} (h1 : isZ ok1 w va a A) (h2 : isZ ok2 w vb b B) (hA : A ≤ 900000000) (hB : B ≤ 900000000) :
    Calls Tryz.prog 230 #[va, vb] w (RetZ w (fresh w) (Int.gcd a b : Int) (max A B)) := by
  obtain ⟨n1, A1, l1, c1, rfl⟩ := h1.shape
  obtain ⟨n2, A2, l2, c2, rfl⟩ := h2.shape
  obtain ⟨ws1, hw1, hl1, hz1⟩ := h1.parts
  obtain ⟨ws2, hw2, hl2, hz2⟩ := h2.parts
  have hx := wv_len hw1.okw hl1
  have hy := wv_len hw2.okw hl2
  generalize hex : wv ws1 = x at *
  generalize hey : wv ws2 = y at *
  have Hx := Lib.hid hex
  have Hy := Lib.hid hey
  have hg : Int.gcd a b = Nat.gcd x y := by rw [hz1, hz2]; unfold Int.gcd; rw [sg_natAbs, sg_natAbs]
  have HG := Lib.hid hg
  clear hex hey hz1 hz2 h1 h2 hg
  obtain ⟨z0, z1, z2, z3, z4⟩ := z3 w.heap.size
  go_enter Tryz.func230, Tryz.ntmps230
  go_wp2
  go_region_held3 (fun w' => ∀ b o, b < w.heap.size + 1 + 1 → w'.cell? ⟨b, o, none⟩ = (((w.alloc (Obj.cells #[Value.bool n1, .slice A1 l1 c1] 42)).alloc (Obj.cells #[Value.bool n2, .slice A2 l2 c2] 42)).alloc (Obj.cells #[Value.bool false, Value.slice none 0 0] 42)).cell? ⟨b, o, none⟩)
      (first
        | (exact fun _ _ _ => rfl)
        | assumption
        | (exact keep_of (by assumption) (by omega))
        | (exact keep_dr (by assumption) (by omega))
        | (exact keep_set1 (by assumption) (by omega) (by omega))
        | (exact keep_set2 (by assumption) (by omega) (by omega))
        | (exact keep_set4 (by assumption) (by omega) (by omega)))
      (first
        | (go_at_call 173; (with_reducible refine Calls.mono (trim_c (hw1.below (bdr (bal (bal (bal (b0 _))))))) ?_); rintro e w1 ⟨A3, l3, c3, rfl, hv1, rfl⟩; rw [Hx.out] at hv1)
        | (go_at_call 173; (with_reducible refine Calls.mono (trim_c (hw2.below (bdr (bal (bal (bal (b0 _))))))) ?_); rintro e w1 ⟨A4, l4, c4, rfl, hv2, rfl⟩; rw [Hy.out] at hv2))
  go_wp2
  go_loopw [5, 6] (fun xv yv wr => ∃ (p q : Nat) (Ap : Option Addr) (lp cp : Nat) (Aq : Option Addr) (lq cq : Nat), xv = .slice Ap lp cp ∧ yv = .slice Aq lq cq ∧ Wd (fun _ => True) wr (.slice Ap lp cp) (dg p) ∧ Wd (fun _ => True) wr (.slice Aq lq cq) (dg q) ∧ p < pw (max A B) ∧ q < pw (max A B) ∧ Hid (Nat.gcd p q = Nat.gcd x y) ∧ Bx (w.heap.size + 3) (((w.alloc (Obj.cells #[Value.bool n1, .slice A1 l1 c1] 42)).alloc (Obj.cells #[Value.bool n2, .slice A2 l2 c2] 42)).alloc (Obj.cells #[Value.bool false, Value.slice none 0 0] 42)) wr) (fun _ yv wr => wvOf wr yv)
  case atStart => exact ⟨x, y, A3, l3, c3, A4, l4, c4, rfl, rfl, hv1.mono (fun _ _ _ => trivial), hv2.mono (fun _ _ _ => trivial), Nat.lt_of_lt_of_le hx (pw_mono (Nat.le_max_left _ _)), Nat.lt_of_lt_of_le hy (pw_mono (Nat.le_max_right _ _)), Lib.hid rfl, (Bx.refl _ (by simp)).dr⟩
  case round =>
    clear hv1 hv2
    obtain ⟨p, q, Ap, lp, cp, Aq, lq, cq, rfl, rfl, hp, hq, hpb, hqb, hgc, B1⟩ := hrel
    have HGC := Lib.hid hgc.out
    clear hgc
    have hm0 := wvOf_eq hq
    by_cases hq0 : 0 < q
    · have hlq : lq ≠ 0 := by have := hq.len_eq; have := (dg_length_pos (n := q)); omega
      have hlq' : (0 : Int) < (lq : Int) := by omega
      clear hlq
      have hm1 : p % q < q := Nat.mod_lt _ hq0
      go_wp2_with (go_at_call 250; (with_reducible refine Calls.mono (div_c hp hq (Nat.le_trans (dg_length hpb) (by omega)) (Nat.le_trans (dg_length hqb) (by omega)) hq0) ?_); rintro e w1 ⟨A6, l6, c6, A7, l7, c7, rfl, hb1, hq6, hr7⟩; rw [wv_dg] at hr7)
      refine ⟨⟨q, p % q, Aq, lq, cq, A7, l7, c7, rfl, rfl, hq.below hb1, hr7.mono (fun _ _ _ => trivial), hqb, Nat.lt_trans hm1 hqb, Lib.hid ?_, B1.step hb1⟩, ?_⟩
      · rw [← HGC.out, Nat.gcd_comm p q, Nat.gcd_rec q p, Nat.gcd_comm]
      · rw [wvOf_eq hr7]; exact Nat.lt_of_lt_of_eq hm1 hm0.symm
    · obtain rfl : q = 0 := by omega
      have hlq : lq = 0 := by have h9 := hq.len_eq; rw [dg_zero] at h9; exact h9
      subst hlq
      rw [Nat.gcd_zero_right] at HGC
      have HZ : Hid (sg false (wv (dg p)) = (Int.gcd a b : Int)) := by unfold Hid; rw [wv_dg, HG.out, ← HGC.out]; rfl
      have hpb2 : wv (dg p) < pw (max A B) := by rw [wv_dg]; exact hpb
      have k0 := B1.cell
      go_wp2_with (first
        | (go_at_call 232; (with_reducible refine Calls.mono (clone_c hp (Nat.le_trans (dg_length hpb) (by omega))) ?_); rintro e w1 ⟨A6, l6, c6, rfl, hb1, hv6⟩)
        | (go_at_call 171; (with_reducible refine Calls.mono (made_c (z := (Int.gcd a b : Int)) (B := max A B) false hv6 HZ.out hpb2) ?_); rintro e w2 ⟨n8, A8, l8, c8, rfl, hb2, hr8⟩; have B2 := Bx.step (Bx.step B1 hb1) hb2; have k2 := B2.cell; have f2 := B2.frozen))
      refine bodyPost_ret (v := .agg #[.bool n8, .slice A8 l8 c8]) ?_ rfl ?_
      · simp [results, Tryz.results230, go_sem, k2]
      · exact RetZ.box (bthen (bthen (Below.trans (bal (bal (bal (b0 _)))) (B1.b.mono (by (first | omega | (simp; done) | (simp; omega) | (simp [fresh]; done) | (simp [fresh]; omega))))) hb1) hb2) (by omega) hr8 (by have := B1.s; (first | omega | (simp; done) | (simp; omega) | (simp [fresh]; done) | (simp [fresh]; omega))) (fun k hk => by have := B1.s; simp [fresh] at hk; omega)
end Go.Proofs.YtdkfdamihnieiaaGreat
end
