/- pylonlaw38.RightRevenueAdequacy. -/
import Derived.Test.YtdkfdamihnieiaaGreatG36
set_option linter.unusedSimpArgs false
set_option linter.unusedVariables false
section
open Go Go.RowKit Go.Shelf
namespace Go.Proofs.YtdkfdamihnieiaaGreat
open Go.Proofs
attribute [local go_sem] Oper.semAt_some wide_fn wide_depth
theorem vm_two {n0 B : Nat} {w : World} {v1 v2 : Value} {q1 q2 : List Rat} (h1 : Vq n0 (rq B) w v1 q1) (h2 : Vq n0 (rq B) w v2 q2) : Vm n0 (rq B) (w.alloc (.cells #[v1, v2] 26)) (.slice (some ⟨w.heap.size, 0, none⟩) 2 2) [q1, q2] := by
  refine ⟨_, 2, rfl, Nat.le_refl _, by unfold maxLen; omega, fun _ => ⟨w.heap.size, 0, rfl, fun j hj => ?_⟩⟩
  have hj2 : j = 0 ∨ j = 1 := by simp at hj; omega
  rcases hj2 with rfl | rfl
  · exact ⟨v1, by rw [World.cell?_alloc_new]; rfl, h1.below (rq_stable B) (bal (b0 w))⟩
  · exact ⟨v2, by rw [World.cell?_alloc_new]; rfl, h2.below (rq_stable B) (bal (b0 w))⟩
theorem flowsE_zero {b : Int} {ls : List Ln} {out : List Int} {rs : List Rt} (h : flowsE b ls out rs = 0) : wrongS b ls out rs = 0 ∧ withinS (ofS b.toNat (servL ls out)) rs = true ∧ ¬ singS b.toNat ls out := by
  unfold flowsE at h
  by_cases h1 : wrongS b ls out rs = 0
  · rw [if_neg (by simpa using h1)] at h
    by_cases h2 : withinS (ofS b.toNat (servL ls out)) rs = false
    · rw [if_pos h2] at h; omega
    · rw [if_neg h2] at h
      by_cases h3 : singS b.toNat ls out
      · rw [if_pos h3] at h; omega
      · exact ⟨h1, by simpa using h2, h3⟩
  · rw [if_pos h1] at h; exact absurd h h1
theorem ofS_length (n : Nat) (ls : List Ln) : (ofS n ls).length = n := by unfold ofS; rw [List.length_map, standsS_length]
theorem price_qB {n0 K : Nat} {w : World} {vb vl vm : Value} {is : List Int} {bs L : List Rat} {F : List (List Rat)} (hb : Vq n0 (rq K) w vb bs) (hL : ∀ k, qB (L.getD k 0) K) (hm : bndL F 700000) (hF : F.length ≤ 10) (hK0 : 0 < K) (hK : K ≤ 1048576) : ∀ q ∈ priceL is bs F L, qB q 20000000 := by
  intro q hq
  obtain ⟨k, hk, rfl⟩ := List.getElem_of_mem hq
  rw [priceL_length] at hk
  have e : (priceL is bs F L)[k]'(by rw [priceL_length]; exact hk) = (priceL is bs F L).getD k 0 := by rw [List.getD_eq_getElem?_getD, List.getElem?_eq_getElem (by rw [priceL_length]; exact hk)]; rfl
  rw [e, priceL_getD _ _ _ _ hk]
  have h1 := vq_atI hb hK0 (is.getD k 0)
  have h2 := dotL_size (R := fun l => atI L (l : Int) * atI (F.getD l []) (k : Int)) (B := K + 700000) (fun l => by
    rw [atI_nat, atI_nat]
    exact qB_mul (hL l) (hm l k)) (List.range F.length)
  rw [List.length_range] at h2
  have h3 := Nat.mul_le_mul hF (show K + 700000 + 1 ≤ 1748577 by omega)
  exact (qB_add h1 (qB_neg h2)).mono (by omega)
theorem pay_qB {ps : List Rat} {rs : List Rt} {B : Nat} (hp : ∀ q ∈ ps, qB q B) (hB : 0 < B) (hr : ∀ x ∈ rs, -9223372036854775808 ≤ x.q ∧ x.q ≤ 9223372036854775807) : ∀ q ∈ payL ps rs, qB q (2 * B + 3) := by
  intro q hq
  unfold payL at hq
  obtain ⟨j, hj, rfl⟩ := List.mem_map.1 hq
  have hj2 := List.mem_range.1 hj
  unfold payF
  have hmj : rs.getD j Rt.zero ∈ rs := by rw [List.getD_eq_getElem?_getD, List.getElem?_eq_getElem hj2]; exact List.getElem_mem _
  obtain ⟨q1, q2⟩ := hr _ hmj
  have hk : ∀ t, qB (ps.getD t 0) B := fun t => by
    by_cases ht : t < ps.length
    · rw [List.getD_eq_getElem?_getD, List.getElem?_eq_getElem ht]; exact hp _ (List.getElem_mem ht)
    · rw [List.getD_eq_getElem?_getD, List.getElem?_eq_none (by omega)]; exact qB_zero hB
  have h5 := qB_add (hk (rs.getD j Rt.zero).t.toNat) (qB_neg (hk (rs.getD j Rt.zero).f.toNat))
  rw [← Rat.sub_eq_add_neg] at h5
  exact (qB_mul (qB_int q1 q2) h5).mono (by omega)
theorem resz_getD (qs : List Rat) {N : Nat} (k : Nat) {B : Nat} (h : ∀ k, qB (qs.getD k 0) B) (hB : 0 < B) : qB (((List.range N).map fun k => qs.getD k 0).getD k 0) B := by
  rw [List.getD_eq_getElem?_getD, List.getElem?_map]
  by_cases hk : k < N
  · rw [List.getElem?_range hk]; exact h k
  · rw [List.getElem?_eq_none (by simp; omega)]; exact qB_zero hB
set_option maxRecDepth 100000 in
set_option maxHeartbeats 8000000 in
theorem rightRevenue_c {K : Nat} {w : World} {b : Int} {v vo vr vb vl : Value} {ls : List Ln} {out : List Int} {rs : List Rt} {bs lq : List Rat} (h : Vl w v ls) (ho : Vi w vo out) (hr : Vr w vr rs) (hb : Vq w.heap.size (rq K) w vb bs) (hl : Vq w.heap.size (rq K) w vl lq) (hK2 : 2 ≤ K) (hK : K ≤ 1048576) : Calls Tryz.prog 6 #[.agg #[.int .i64 b, v], vo, vr, vb, vl] w (RetO w (.bool true)) := by
  have HLG := Lib.hid (fun W (hw : Below w.heap.size w W) => long38_c (b := b) (h.below hw) (ho.below hw) (hr.below hw))
  have HFL := Lib.hid (fun W (hw : Below w.heap.size w W) => flows_c (n0 := w.heap.size) (b := b) (h.below hw) (ho.below hw) (hr.below hw) hw.size)
  have HFE := Lib.hid (fun W (hw : Below w.heap.size w W) => feasible_c (b := b) (h.below hw) (ho.below hw) (hr.below hw))
  have HL := Lib.hid h
  have HO := Lib.hid ho
  have HR := Lib.hid hr
  have HVB := Lib.hid hb
  have HVL := Lib.hid hl
  have HLN := Lib.hid (fun W (hw : Below w.heap.size w W) => long_c (vm_two (hb.below (rq_stable K) hw) (hl.below (rq_stable K) hw)))
  obtain ⟨A1, l1, c1, rfl⟩ := h.shape
  obtain ⟨A2, l2, c2, rfl⟩ := ho.shape
  obtain ⟨A3, l3, c3, rfl⟩ := hr.shape
  obtain ⟨A4, l4, c4, rfl⟩ := hb.shape
  obtain ⟨A5, l5, c5, rfl⟩ := hl.shape
  have hl1 := h.len
  subst hl1
  have HBX := Lib.hid (Blk.new w [.int .i64 b, .slice A1 ls.length c1] 24 rfl)
  have HL0 := Lib.hid (HLG.out _ (bal (b0 w) (o := .cells #[.int .i64 b, .slice A1 ls.length c1] 24)))
  clear h ho hr hb hl HLG
  go_enter Tryz.func6, Tryz.ntmps6
  go_wp2_with fail
  go_at_call 35
  refine Calls.mono HL0.out ?_
  rintro e w1 ⟨bb, rfl, hb1, hlen⟩
  have HB1 := Lib.hid (bthen (bal (b0 w)) hb1)
  have Q1 := Lib.hid (HBX.out.below hb1)
  clear hb1 hlen
  cases bb with
  | true =>
    go_wp2_with (go_at_call 37; (with_reducible refine Calls.mono (awake_c _) ?_); rintro e w2 ⟨rfl, hb2⟩)
    go_ret
    exact ⟨rfl, bthen HB1.out hb2⟩
  | false =>
    go_wp2_with fail
    go_at_call 36
    refine Calls.mono (HLN.out _ HB1.out) ?_
    rintro e w2 ⟨⟨b2, rfl⟩, hb2⟩
    have HB2 := Lib.hid (bthen HB1.out (bthen (bal (b0 w1)) hb2))
    have Q2 := Lib.hid ((Q1.out.below (bal (b0 w1) (o := .cells #[.slice A4 l4 c4, .slice A5 l5 c5] 26))).below hb2)
    clear hb2
    cases b2 with
    | true =>
      go_wp2_with (go_at_call 37; (with_reducible refine Calls.mono (awake_c _) ?_); rintro e w3 ⟨rfl, hb3⟩)
      go_ret
      exact ⟨rfl, bthen HB2.out hb3⟩
    | false =>
      go_wp2_with fail
      go_at_call 37
      refine Calls.mono (awake_c _) ?_
      rintro e w3 ⟨rfl, hb3⟩
      have HB3 := Lib.hid (bthen HB2.out hb3)
      have Q3 := Lib.hid (Q2.out.below hb3)
      obtain ⟨q0, q1⟩ := Q3.out.c2
      clear hb3
      by_cases hE : flowsE b ls out rs = 0
      · obtain ⟨hwr, hwi, hsi⟩ := flowsE_zero hE
        obtain ⟨hou, hrc⟩ := wrong_ok hwr
        obtain ⟨hr8, hrin⟩ := rchk_ok hrc
        obtain ⟨n, rfl⟩ : ∃ n : Nat, b = (n : Int) := ⟨b.toNat, by have := chk_ok (outs_ok hou).1; omega⟩
        simp only [Int.toNat_natCast] at hwi hsi
        obtain ⟨hn6, hn1, hll, hlin, _, _⟩ := inv_bnd hou
        obtain ⟨hf1, hf2, _⟩ := facM_ok hou
        have hfb := facM_bnd2 hou
        have hflb := flowsL_bnd2 hou (fun x hx => by have := hrin x hx; omega) (show rs.length ≤ 12 by omega)
        have hinr : rs.all (inr n) = true := List.all_eq_true.2 fun x hx => by
          have := hrin x hx
          unfold inr isB
          simp only [Bool.and_eq_true, decide_eq_true_eq]
          omega
        have hcap : ∀ l ∈ ls, 0 ≤ l.c ∧ l.c ≤ 1000000 := fun l hl => (lnok_of (chk_ok (outs_ok hou).1).2.2.2 hl).2.2.2.2.2.2.2
        have hrq : ∀ x ∈ rs, -9223372036854775808 ≤ x.q ∧ x.q ≤ 9223372036854775807 := fun x hx => by have := hrin x hx; omega
        have HFL4 := Lib.hid (HFL.out _ HB3.out)
        have HOF := Lib.hid (fun W (hw : Below w.heap.size w W) => of_o (HL.out.below hw) (HO.out.below hw) hou)
        have HFA := Lib.hid (fun W (hw : Below w.heap.size w W) => factors_c (n0 := w.heap.size) (HL.out.below hw) (HO.out.below hw) hou hw.size)
        have hil := ofS_length n (servL ls out)
        have hfe : feasR (n : Int) ls out rs = (feasB ls (flowsL n ls out rs), 0) := by unfold feasR; rw [if_pos hE, Int.toNat_natCast]
        have hflw : flowsL n ls out rs = (facM n ls out).map fun row => dotq row (inL n rs) := rfl
        have hfll := flowsL_length n ls out rs
        have hsi' : n ≤ (invR (tabF n ls out)).2.length := by unfold singS at hsi; omega
        obtain ⟨is, his⟩ : ∃ is, is = ofS n (servL ls out) := ⟨_, rfl⟩
        obtain ⟨F, hF⟩ : ∃ F, F = facM n ls out := ⟨_, rfl⟩
        obtain ⟨fs, hfs⟩ : ∃ fs, fs = flowsL n ls out rs := ⟨_, rfl⟩
        obtain ⟨L, hL⟩ : ∃ L, L = (List.range ls.length).map fun k => lq.getD k 0 := ⟨_, rfl⟩
        simp only [Int.toNat_natCast] at HFL4
        rw [← his] at hwi HOF hil
        rw [← hF] at hf1 hf2 hfb HFA hflw
        rw [← hfs] at hflb HFL4 hfe hflw hfll
        have hLl : L.length = ls.length := by rw [hL]; simp
        have hLb : ∀ k, qB (L.getD k 0) K := fun k => by
          rw [hL]
          refine resz_getD lq k (fun j => ?_) (by omega)
          have := vq_atI HVL.out (by omega) (j : Int)
          rwa [atI_nat] at this
        have hLm : ∀ q ∈ L, qB q K := fun q hq => by
          obtain ⟨j, hj, rfl⟩ := List.getElem_of_mem hq
          have := hLb j
          rwa [List.getD_eq_getElem?_getD, List.getElem?_eq_getElem hj] at this
        have hfm : ∀ q ∈ fs, qB q 5000000 := fun q hq => by
          obtain ⟨j, hj, rfl⟩ := List.getElem_of_mem hq
          have := hflb j
          rwa [List.getD_eq_getElem?_getD, List.getElem?_eq_getElem hj] at this
        have hpl : (priceL is bs F L).length = n := by rw [priceL_length, hil]
        have hpb := price_qB (is := is) (vb := .slice A4 l4 c4) (vl := .slice A4 l4 c4) (vm := .slice A4 l4 c4) HVB.out hLb hfb (by omega) (by omega) hK
        have hpy := pay_qB hpb (by omega) hrq
        have hlaw := rev_law (bs := bs) hil hinr hwi (by intro k hk; exact hf2 k hk) (show L.length = F.length by omega)
        rw [← hflw] at hlaw
        have hbnd := rev_bound (ls := ls) hLl hfll
        have hmq := mostL_qB hLb hcap
        have hrz : (List.range (min ((ls.length : Int)).toNat 65536)).map (fun k => lq.getD k 0) = L := by rw [hL, Int.toNat_natCast, Nat.min_eq_left (by omega)]
        have HRZ := Lib.hid (fun W (hw : Below w.heap.size w W) => resize_c (HVL.out.below (rq_stable K) hw) (by omega) (by omega) (ls.length : Int) (by omega) (by omega))
        rw [hrz] at HRZ
        have HPB := Lib.hid hpb
        have HPY := Lib.hid hpy
        have HPL := Lib.hid hpl
        have HINR := Lib.hid hinr
        have HRQ := Lib.hid hrq
        have HFB := Lib.hid hfb
        have HLM := Lib.hid hLm
        have HFM := Lib.hid hfm
        have HLAW := Lib.hid hlaw
        have HBND := Lib.hid hbnd
        have HMQ := Lib.hid hmq
        have HLL := Lib.hid hLl
        have HFE2 := Lib.hid hfe
        have HFLL := Lib.hid hfll
        have HIL := Lib.hid hil
        have HF1 := Lib.hid hf1
        have HE := Lib.hid hE
        have HSI := Lib.hid hsi'
        have HLB := Lib.hid hLb
        have HCAP := Lib.hid hcap
        have hpyl : (payL (priceL is bs F L) rs).length = rs.length := by unfold payL; simp
        have HPYL := Lib.hid hpyl
        obtain ⟨P, hP⟩ : ∃ P, P = priceL is bs F L := ⟨_, rfl⟩
        rw [← hP] at HPB HPY HPL HLAW HPYL
        have HPE := Lib.hid hP
        obtain ⟨Y, hY⟩ : ∃ Y, Y = payL P rs := ⟨_, rfl⟩
        rw [← hY] at HPY HLAW HPYL
        have HYE := Lib.hid hY
        have htq := totL_qB HPY.out
        rw [HPYL.out] at htq
        have HTQ := Lib.hid (htq.mono (show rs.length * (2 * 20000000 + 3 + 1) + 1 ≤ 400000000 by omega))
        have hdq := dotq_bnd (A := K) (B := 5000000) (N := 10) hLb hflb (by omega)
        have HDQ := Lib.hid (hdq.mono (show 10 * (K + 5000000 + 1) + 1 ≤ 400000000 by omega))
        have HR8 := Lib.hid hr8
        clear hwr hwi hsi hou hrc hrin hlin hf1 hf2 hfb hflb hinr hcap hrq hil hfe hflw hfll hsi' hLl hLb hLm hfm hpl hpb hpy hlaw hbnd hmq hrz hE hL hfs hF his hpyl hP hY htq hdq HFL
        go_wp2_with (first
          | (go_at_call 38; (with_reducible refine Calls.mono HFL4.out ?_); rintro e w4 ⟨hb4, _, hy⟩; obtain ⟨B4, k4, d4, rfl, hv4⟩ := hy HE.out; have HB4 := Lib.hid (bthen HB3.out hb4); have Q4 := Lib.hid (Q3.out.below hb4); obtain ⟨q40, q41⟩ := Q4.out.c2; have HV4 := Lib.hid hv4; have HC4 := Lib.hid (HOF.out w4 HB4.out); clear hb4 hy hv4)
          | (go_at_call 39; (with_reducible refine Calls.mono HC4.out ?_); rintro e w5 ⟨B5, k5, d5, rfl, hb5, hv5⟩; have HB5 := Lib.hid (bthen HB4.out hb5); have Q5 := Lib.hid (Q4.out.below hb5); obtain ⟨q50, q51⟩ := Q5.out.c2; have HV45 := Lib.hid (HV4.out.below cq_stable hb5); have HV5 := Lib.hid hv5; have HC5 := Lib.hid (HFA.out w5 HB5.out); clear hb5 hv5)
          | (go_at_call 40; (with_reducible refine Calls.mono HC5.out ?_); rintro e w6 ⟨hb6, _, hy⟩; obtain ⟨B6, k6, d6, rfl, hv6⟩ := hy HSI.out; have HB6 := Lib.hid (bthen HB5.out hb6); have Q6 := Lib.hid (Q5.out.below hb6); obtain ⟨q60, q61⟩ := Q6.out.c2; have HV46 := Lib.hid (HV45.out.below cq_stable hb6); have HV56 := Lib.hid (HV5.out.below hb6); have HV6 := Lib.hid (hv6.rq HFB.out.rows); have HC6 := Lib.hid (HRZ.out w6 HB6.out); clear hb6 hy hv6)
          | (go_at_call 41; (with_reducible refine Calls.mono HC6.out ?_); rintro e w7 ⟨B7, k7, d7, rfl, hb7, hv7, _⟩; have HB7 := Lib.hid (bthen HB6.out hb7); have Q7 := Lib.hid (Q6.out.below hb7); obtain ⟨q70, q71⟩ := Q7.out.c2; have HV47 := Lib.hid (HV46.out.below cq_stable hb7); have HV7 := Lib.hid (hv7.rq HLM.out); have HC7 := Lib.hid (prices_c (HV56.out.below hb7) (HVB.out.below (rq_stable K) HB7.out) (HV6.out.below (rq_stable 700000) hb7) HV7.out (by omega) (by omega) (by omega) (by omega) (by omega) (by omega) (by have := HF1.out; omega) (by have := Nat.mul_le_mul (show F.length ≤ 10 by have := HF1.out; omega) (show K + 700000 + 1 ≤ 1748577 by omega); omega) (by have := HIL.out; omega)); rw [← HPE.out] at HC7; clear hb7 hv7)
          | (go_at_call 42; (with_reducible refine Calls.mono HC7.out ?_); rintro e w8 ⟨B8, k8, d8, rfl, hb8, hv8, _⟩; have HB8 := Lib.hid (bthen HB7.out hb8); have Q8 := Lib.hid (Q7.out.below hb8); obtain ⟨q80, q81⟩ := Q8.out.c2; have HV48 := Lib.hid (HV47.out.below cq_stable hb8); have HV78 := Lib.hid (HV7.out.below (rq_stable K) hb8); have HC8 := Lib.hid (pays_c (HR.out.below HB8.out) (hv8.rq HPB.out) (by omega) (by omega) HRQ.out (by have := HR8.out; omega)); rw [HPL.out, ← HYE.out] at HC8; clear hb8 hv8)
          | (go_at_call 43; (with_reducible refine Calls.mono HC8.out ?_); rintro e w9 ⟨hb9, hy, _⟩; obtain ⟨B9, k9, d9, rfl, hv9⟩ := hy HINR.out; have HB9 := Lib.hid (bthen HB8.out hb9); have Q9 := Lib.hid (Q8.out.below hb9); obtain ⟨q90, q91⟩ := Q9.out.c2; have HV49 := Lib.hid (HV48.out.below cq_stable hb9); have HV79 := Lib.hid (HV78.out.below (rq_stable K) hb9); have HV9 := Lib.hid (hv9.rq HPY.out); have HC9 := Lib.hid (HFE.out w9 HB9.out); rw [HFE2.out] at HC9; clear hb9 hy hv9)
          | (go_at_call 44; (with_reducible refine Calls.mono HC9.out ?_); rintro e wa ⟨rfl, hba⟩; have HBa := Lib.hid (bthen HB9.out hba); have Qa := Lib.hid (Q9.out.below hba); obtain ⟨qa0, qa1⟩ := Qa.out.c2; have HV4a := Lib.hid ((HV49.out.below cq_stable hba).rq HFM.out); have HV7a := Lib.hid (HV79.out.below (rq_stable K) hba); have HV9a := Lib.hid (HV9.out.below (rq_stable _) hba); have HCa := Lib.hid (total_c HV9a.out (by omega) (by rw [HPYL.out]; have := HR8.out; omega) (by omega)); clear hba)
          | (go_at_call 46; (with_reducible refine Calls.mono HCa.out ?_); rintro e wb ⟨nb, Ab, lb, cb, mb, Db, eb, gb, rfl, hbb, hrb⟩; have HBb := Lib.hid (bthen HBa.out hbb); have Qb := Lib.hid (Qa.out.below hbb); have HQb := Lib.hid (isQc.q hrb HTQ.out); have HV7b := Lib.hid (HV7a.out.below (rq_stable K) hbb); have HV9b := Lib.hid (HV9a.out.below (rq_stable _) hbb); have HCb := Lib.hid (dot_c (vq_wider HV7b.out (show K ≤ 5000000 by omega)) (HV4a.out.below (rq_stable _) hbb) (by omega) (by omega) (by have h1 := HLL.out; have h2 := HFLL.out; rw [h1, h2, Nat.max_self]; omega)); clear hbb hrb)
          | (go_at_call 47; (with_reducible refine Calls.mono HCb.out ?_); rintro e wc ⟨nc, Ac, lc, cc, mc, Dc, ec, gc, rfl, hbc, hrc⟩; have HBc := Lib.hid (bthen HBb.out hbc); have Qc := Lib.hid (Qb.out.below hbc); have HQc := Lib.hid (isQc.q hrc HDQ.out); have HV7c := Lib.hid (HV7b.out.below (rq_stable K) hbc); have HV9c := Lib.hid (HV9b.out.below (rq_stable _) hbc); have HCc := Lib.hid (equal_q (HQb.out.below hbc) HQc.out (by omega) (by omega) (by omega) (by omega)); clear hbc hrc))
        go_at_call 45
        refine Calls.mono HCc.out ?_
        rintro e wd ⟨rfl, hbd⟩
        have HBd := Lib.hid (bthen HBc.out hbd)
        have Qd := Lib.hid (Qc.out.below hbd)
        have HV7d := Lib.hid (HV7c.out.below (rq_stable K) hbd)
        have HV9d := Lib.hid (HV9c.out.below (rq_stable _) hbd)
        have heq : decide (totL Y = dotq L fs) = true := decide_eq_true HLAW.out
        rw [heq]
        obtain ⟨qd0, qd1⟩ := Qd.out.c2
        have HCa2 := Lib.hid (fun W (hw : Below wd.heap.size wd W) => total_c (HV9d.out.below (rq_stable _) hw) (by omega) (by rw [HPYL.out]; have := HR8.out; omega) (by omega))
        clear hbd heq
        obtain ⟨fb, hfb⟩ : ∃ fb, fb = feasB ls fs := ⟨_, rfl⟩
        rw [← hfb]
        rw [← hfb] at HBND
        clear hfb
        cases fb with
        | false =>
          go_wp2
          go_ret
          exact ⟨rfl, HBd.out⟩
        | true =>
          have HBND2 := Lib.hid (HBND.out rfl)
          have hk7 : k7 = ls.length := by have h1 := HV7d.out.len_eq; have h2 := HLL.out; omega
          subst hk7
          go_wp2
          go_loopg [23] ls.length (fun gh iv wr => ∃ (k : Nat) (y : Qx), gh = ls.length - k ∧ k ≤ ls.length ∧ iv = .int .i64 (k : Int) ∧ Hid (Blk wr wd.heap.size 44 y.cs) ∧ Hid (cq wr y.v (mostL ls L k)) ∧ Hid (Below wd.heap.size wd wr))
          case atStart => exact ⟨0, Qx.zero, rfl, by omega, rfl, Lib.hid (Blk.new4 rfl), Lib.hid (cq_ratl.zero _), Lib.hid (bal (b0 wd))⟩
          case round =>
            obtain ⟨k, y, rfl, hk, rfl, HBk, HSm, HBL⟩ := hrel
            obtain ⟨wo, rfl⟩ : ∃ wo : World, wo = wr := ⟨_, rfl⟩
            have Qo := Lib.hid (Qd.out.below HBL.out)
            obtain ⟨qo0, qo1⟩ := Qo.out.c2
            obtain ⟨yn, ⟨yA, yl, yc⟩, ym, ⟨yB, yl2, yc2⟩, rfl⟩ := Qx.shape (isQc.slices HSm.out)
            simp only at HBk HSm
            by_cases hlt : k < ls.length
            · have hvq := HV7d.out.below (rq_stable K) HBL.out
              obtain ⟨bv, ov, nf, sf, mf, tf, hA, elt, x0, x1, x2, x3⟩ := hvq.elem (k := k) hlt
              subst hA
              obtain ⟨⟨As, lS, cS, e1⟩, At, lT, cT, e2⟩ := (rq_ratl (show 0 < K by omega)).slices elt
              subst e1 e2
              obtain ⟨bl, ol, hA1, hcl⟩ := (HL.out.below (bthen HBd.out HBL.out)).at (by omega)
              subst hA1
              obtain ⟨d0, d1, d2, d3⟩ := hcl k hlt
              obtain ⟨hc0, hc1⟩ := HCAP.out (ls.getD k Ln.zero) (by rw [List.getD_eq_getElem?_getD, List.getElem?_eq_getElem hlt]; exact List.getElem_mem hlt)
              have hms := mostL_succ ls L k
              obtain ⟨cap, hcap⟩ : ∃ cap, cap = (ls.getD k Ln.zero).c := ⟨_, rfl⟩
              rw [← hcap] at d3 hc0 hc1 hms
              have hfb := HLB.out k
              obtain ⟨f, hf⟩ : ∃ f, f = L.getD k 0 := ⟨_, rfl⟩
              rw [← hf] at elt hfb hms
              have hsb := HMQ.out k
              obtain ⟨S, hS⟩ : ∃ S, S = mostL ls L k := ⟨_, rfl⟩
              rw [← hS] at hms hsb HSm
              have hbf : bv < wo.heap.size := World.block_lt_of_cell? wo _ x0
              have hbl : bl < wo.heap.size := World.block_lt_of_cell? wo _ d3
              have HSV := Lib.hid (show cq wo (.agg #[.bool yn, .slice yA yl yc, .bool ym, .slice yB yl2 yc2]) S from HSm.out)
              have HMS := Lib.hid hms
              have HSB := Lib.hid (hsb.mono (show k * (K + 2 + 1) + 1 ≤ 20000000 by have := Nat.mul_le_mul (show k ≤ 10 by omega) (show K + 2 + 1 ≤ 1048579 by omega); omega))
              have HEF := Lib.hid (show isQ (fun _ => True) wo (.agg #[.bool nf, .slice As lS cS, .bool mf, .slice At lT cT]) f K from elt)
              have HFBB := Lib.hid (show qB (mx f (-f)) K from qB_mx hfb (qB_neg hfb))
              have HCB := Lib.hid (qB_int (z := cap) (by omega) (by omega))
              have HD3 := Lib.hid d3
              have HX := Lib.hid (And.intro x0 (And.intro x1 (And.intro x2 x3)))
              clear hvq elt hcl hcap hf hfb d0 d1 d2 d3 x0 x1 x2 x3 hms hsb hS
              go_wp2
              have kk : ∀ (W' : World), Below wo.heap.size wo W' → ∀ (a : Addr) (u : Value), wo.cell? a = some u → W'.cell? a = some u := fun W' hb a u h => (hb.cell (World.block_lt_of_cell? wo _ h)).trans h
              refine (wpIn_wide (n := 10)).1 ?_
              refine wpIn_region_Y (by kernel_rfl) (by kernel_rfl) 15 1 rfl (by kernel_rfl) (fun u => { tmps := List.toArray ((Value.agg #[Value.int IntKind.i64 ↑n, Value.slice (some { block := bl, off := ol }) ls.length c1]) :: (Value.slice A2 l2 c2) :: (Value.slice A3 l3 c3) :: (Value.slice A4 l4 c4) :: (Value.slice (some { block := bv, off := ov }) ls.length d7) :: (Value.pointer (some { block := w.heap.size, off := 0 })) :: undef :: undef :: undef :: undef :: (Value.bool false) :: (Value.slice B4 k4 d4) :: (Value.int IntKind.i64 0) :: (Value.slice B5 k5 d5) :: (Value.int IntKind.i64 0) :: (Value.slice B6 k6 d6) :: (Value.int IntKind.i64 0) :: (Value.slice B8 k8 d8) :: (Value.slice B9 k9 d9) :: (Value.int IntKind.i64 0) :: (Value.bool true) :: (Value.int IntKind.i64 0) :: (Value.pointer (some { block := wd.heap.size, off := 0 })) :: (Value.int IntKind.i64 ↑k) :: (Value.agg #[Value.int IntKind.i64 ↑n, Value.slice (some { block := bl, off := ol }) ls.length c1]) :: (Value.slice A2 l2 c2) :: (Value.slice A3 l3 c3) :: (Value.bool false) :: (Value.bool false) :: (Value.slice A4 l4 c4) :: (Value.slice A5 l5 c5) :: (Value.slice (some { block := w1.heap.size, off := 0 }) 2 2) :: (Value.bool false) :: (Value.bool false) :: (Value.bool false) :: (Value.bool true) :: (Value.bool false) :: (Value.bool false) :: undef :: (Value.tuple #[Value.slice B4 k4 d4, Value.int IntKind.i64 0]) :: (Value.agg #[Value.int IntKind.i64 ↑n, Value.slice (some { block := bl, off := ol }) ls.length c1]) :: (Value.slice A2 l2 c2) :: (Value.slice A3 l3 c3) :: (Value.tuple #[Value.slice B4 k4 d4, Value.int IntKind.i64 0]) :: (Value.slice B4 k4 d4) :: (Value.int IntKind.i64 0) :: (Value.int IntKind.i64 0) :: (Value.bool false) :: undef :: undef :: undef :: (Value.tuple #[Value.slice B5 k5 d5, Value.int IntKind.i64 0]) :: (Value.agg #[Value.int IntKind.i64 ↑n, Value.slice (some { block := bl, off := ol }) ls.length c1]) :: (Value.slice A2 l2 c2) :: (Value.tuple #[Value.slice B5 k5 d5, Value.int IntKind.i64 0]) :: (Value.slice B5 k5 d5) :: (Value.int IntKind.i64 0) :: (Value.tuple #[Value.slice B6 k6 d6, Value.int IntKind.i64 0]) :: (Value.agg #[Value.int IntKind.i64 ↑n, Value.slice (some { block := bl, off := ol }) ls.length c1]) :: (Value.slice A2 l2 c2) :: (Value.tuple #[Value.slice B6 k6 d6, Value.int IntKind.i64 0]) :: (Value.slice B6 k6 d6) :: (Value.int IntKind.i64 0) :: (Value.int IntKind.i64 0) :: (Value.bool false) :: (Value.bool false) :: (Value.int IntKind.i64 0) :: (Value.bool false) :: (Value.bool false) :: (Value.slice A5 l5 c5) :: (Value.pointer (some { block := w.heap.size, off := 1 })) :: (Value.slice (some { block := bl, off := ol }) ls.length c1) :: (Value.int IntKind.i64 ↑ls.length) :: (Value.slice (some { block := bv, off := ov }) ls.length d7) :: (Value.slice B5 k5 d5) :: (Value.slice A4 l4 c4) :: (Value.slice B6 k6 d6) :: (Value.slice (some { block := bv, off := ov }) ls.length d7) :: (Value.slice B8 k8 d8) :: (Value.tuple #[Value.slice B9 k9 d9, Value.int IntKind.i64 0]) :: (Value.slice A3 l3 c3) :: (Value.slice B8 k8 d8) :: (Value.tuple #[Value.slice B9 k9 d9, Value.int IntKind.i64 0]) :: (Value.slice B9 k9 d9) :: (Value.int IntKind.i64 0) :: (Value.tuple #[Value.bool true, Value.int IntKind.i64 0]) :: (Value.agg #[Value.int IntKind.i64 ↑n, Value.slice (some { block := bl, off := ol }) ls.length c1]) :: (Value.slice A2 l2 c2) :: (Value.slice A3 l3 c3) :: (Value.tuple #[Value.bool true, Value.int IntKind.i64 0]) :: (Value.bool true) :: (Value.int IntKind.i64 0) :: (Value.int IntKind.i64 0) :: (Value.bool false) :: (Value.bool false) :: (Value.int IntKind.i64 0) :: (Value.bool false) :: (Value.bool false) :: (Value.bool false) :: (Value.slice B9 k9 d9) :: (Value.agg #[Value.bool nb, Value.slice Ab lb cb, Value.bool mb, Value.slice Db eb gb]) :: (Value.slice (some { block := bv, off := ov }) ls.length d7) :: (Value.slice B4 k4 d4) :: (Value.agg #[Value.bool nc, Value.slice Ac lc cc, Value.bool mc, Value.slice Dc ec gc]) :: (Value.bool true) :: (Value.bool false) :: (Value.bool false) :: (Value.bool true) :: (Value.bool false) :: (Value.agg #[Value.bool false, Value.slice none 0 0, Value.bool false, Value.slice none 0 0]) :: (Value.int IntKind.i64 ↑k) :: (Value.pointer (some { block := w.heap.size, off := 1 })) :: (Value.slice (some { block := bl, off := ol }) ls.length c1) :: (Value.int IntKind.i64 ↑ls.length) :: (Value.bool true) :: u115 :: u116 :: (u 0) :: (u 1) :: (u 2) :: (u 3) :: (u 4) :: (u 5) :: (u 6) :: (u 7) :: (u 8) :: (u 9) :: (u 10) :: (u 11) :: (u 12) :: (u 13) :: (u 14) :: undef :: undef :: undef :: undef :: undef :: []), defers := [] }) (fun k => #[u117, u118, u119, u120, u121, u122, u123, u124, u125, u126, u127, u128, u129, u130, u131].getD k undef) rfl (fun W1 W2 => Below W1.heap.size W1 W2) (fun _ => Below.refl _ _) (fun h1 h2 => bthen h1 h2)
                (fun j9 v W1 => match j9 with
                  | 0 => v = Value.agg #[.bool yn, .slice yA yl yc, .bool ym, .slice yB yl2 yc2]
                  | 1 => v = Value.slice (some ⟨bv, ov, none⟩) ls.length d7
                  | 2 => v = Value.int .i64 (k : Int)
                  | 3 => v = Value.pointer (some ⟨bv, ov + k * 4, none⟩)
                  | 4 => v = Value.agg #[.bool nf, .slice As lS cS, .bool mf, .slice At lT cT]
                  | 5 => ∃ p : Qx, v = p.v ∧ isQc (fun _ => True) W1 p.v (mx f (-f))
                  | 6 => v = Value.pointer (some ⟨w.heap.size, 1, none⟩)
                  | 7 => v = Value.slice (some ⟨bl, ol, none⟩) ls.length c1
                  | 8 => v = Value.int .i64 (k : Int)
                  | 9 => v = Value.pointer (some ⟨bl, ol + k * 4, none⟩)
                  | 10 => v = Value.pointer (some ⟨bl, ol + k * 4 + 3, none⟩)
                  | 11 => v = Value.int .i64 cap
                  | 12 => ∃ p : Qx, v = p.v ∧ isQc (fun _ => True) W1 p.v ((cap : Rat))
                  | 13 => ∃ p : Qx, v = p.v ∧ isQc (fun _ => True) W1 p.v (mx f (-f) * (cap : Rat))
                  | 14 => ∃ p : Qx, v = p.v ∧ isQc (fun _ => True) W1 p.v (S + mx f (-f) * (cap : Rat))
                  | _ => True) ?hY ?step ?fin
              case hY =>
                intro k v W1 W2 h hb
                match k, h with
                | 0, h => exact h
                | 1, h => exact h
                | 2, h => exact h
                | 3, h => exact h
                | 4, h => exact h
                | 5, ⟨p, e, h⟩ => exact ⟨p, e, isQc.below h hb⟩
                | 6, h => exact h
                | 7, h => exact h
                | 8, h => exact h
                | 9, h => exact h
                | 10, h => exact h
                | 11, h => exact h
                | 12, ⟨p, e, h⟩ => exact ⟨p, e, isQc.below h hb⟩
                | 13, ⟨p, e, h⟩ => exact ⟨p, e, isQc.below h hb⟩
                | 14, ⟨p, e, h⟩ => exact ⟨p, e, isQc.below h hb⟩
                | k + 15, h => trivial
              case step =>
                intro u W' j o hj ho hR hpre
                have hbw : Below wo.heap.size wo W' := bthen (bdr (b0 wo)) hR
                obtain ⟨z0, z1, z2, z3⟩ := four1 (n3 := .bool yn) (s3 := .slice yA yl yc) (m3 := .bool ym) (t3 := .slice yB yl2 yc2) (HBk.out.below hbw)
                have y0 := kk W' hbw _ _ HX.out.1
                have y1 := kk W' hbw _ _ HX.out.2.1
                have y2 := kk W' hbw _ _ HX.out.2.2.1
                have y3 := kk W' hbw _ _ HX.out.2.2.2
                have q1 := (Qo.out.below hbw).c2.2
                have q2 := kk W' hbw _ _ HD3.out
                obtain rfl | rfl | rfl | rfl | rfl | rfl | rfl | rfl | rfl | rfl | rfl | rfl | rfl | rfl | rfl : j = 0 ∨ j = 1 ∨ j = 2 ∨ j = 3 ∨ j = 4 ∨ j = 5 ∨ j = 6 ∨ j = 7 ∨ j = 8 ∨ j = 9 ∨ j = 10 ∨ j = 11 ∨ j = 12 ∨ j = 13 ∨ j = 14 := by omega
                · simp at ho
                  subst ho
                  simp [Region.binds] at hpre
                  refine wpOpIn_step rfl (fun K' hK => ?_)
                  simp only [Region.wanted]
                  have HK := Lib.hid hK
                  clear hK
                  gi_wp2
                  exact HK.out _ _ ⟨Value.agg #[.bool yn, .slice yA yl yc, .bool ym, .slice yB yl2 yc2], by simp [upd, undef, *], Below.refl _ _, rfl⟩
                · simp at ho
                  subst ho
                  simp [Region.binds] at hpre
                  refine wpOpIn_step rfl (fun K' hK => ?_)
                  simp only [Region.wanted]
                  have HK := Lib.hid hK
                  clear hK
                  gi_wp2
                  exact HK.out _ _ ⟨Value.slice (some ⟨bv, ov, none⟩) ls.length d7, by simp [upd, undef, *], Below.refl _ _, rfl⟩
                · simp at ho
                  subst ho
                  simp [Region.binds] at hpre
                  refine wpOpIn_step rfl (fun K' hK => ?_)
                  simp only [Region.wanted]
                  have HK := Lib.hid hK
                  clear hK
                  gi_wp2
                  exact HK.out _ _ ⟨Value.int .i64 (k : Int), by simp [upd, undef, *], Below.refl _ _, rfl⟩
                · simp at ho
                  subst ho
                  simp [Region.binds] at hpre
                  refine wpOpIn_step rfl (fun K' hK => ?_)
                  simp only [Region.wanted]
                  have HK := Lib.hid hK
                  clear hK
                  gi_wp2
                  exact HK.out _ _ ⟨Value.pointer (some ⟨bv, ov + k * 4, none⟩), by simp [upd, undef, *], Below.refl _ _, rfl⟩
                · simp at ho
                  subst ho
                  simp [Region.binds] at hpre
                  refine wpOpIn_step rfl (fun K' hK => ?_)
                  simp only [Region.wanted]
                  have HK := Lib.hid hK
                  clear hK
                  gi_wp2
                  exact HK.out _ _ ⟨Value.agg #[.bool nf, .slice As lS cS, .bool mf, .slice At lT cT], by simp [upd, undef, *], Below.refl _ _, rfl⟩
                · simp at ho
                  subst ho
                  simp [Region.binds] at hpre
                  have HF := Lib.hid (abs_q (HEF.out.below hbw) (by omega) (by omega))
                  refine wpOpIn_step rfl (fun K' hK => ?_)
                  simp only [Region.wanted]
                  have HK := Lib.hid hK
                  clear hK
                  gi_wp2_with (gi_at_call 32; (with_reducible refine CallsIn.mono (callsIn_wide.2 HF.out) ?_); rintro e w1 ⟨n7, A7, l7, c7, m7, D7, e7, g7, rfl, hb1, hr1⟩)
                  refine HK.out _ _ ⟨(.agg #[.bool n7, .slice A7 l7 c7, .bool m7, .slice D7 e7 g7]), by simp [upd, undef, Qx.v, Qx.zero, *], hb1, ⟨⟨n7, .slice A7 l7 c7, m7, .slice D7 e7 g7⟩, rfl, hr1.any⟩⟩
                · simp at ho
                  subst ho
                  simp [Region.binds] at hpre
                  refine wpOpIn_step rfl (fun K' hK => ?_)
                  simp only [Region.wanted]
                  have HK := Lib.hid hK
                  clear hK
                  gi_wp2
                  exact HK.out _ _ ⟨Value.pointer (some ⟨w.heap.size, 1, none⟩), by simp [upd, undef, *], Below.refl _ _, rfl⟩
                · simp at ho
                  subst ho
                  simp [Region.binds] at hpre
                  refine wpOpIn_step rfl (fun K' hK => ?_)
                  simp only [Region.wanted]
                  have HK := Lib.hid hK
                  clear hK
                  gi_wp2
                  exact HK.out _ _ ⟨Value.slice (some ⟨bl, ol, none⟩) ls.length c1, by simp [upd, undef, *], Below.refl _ _, rfl⟩
                · simp at ho
                  subst ho
                  simp [Region.binds] at hpre
                  refine wpOpIn_step rfl (fun K' hK => ?_)
                  simp only [Region.wanted]
                  have HK := Lib.hid hK
                  clear hK
                  gi_wp2
                  exact HK.out _ _ ⟨Value.int .i64 (k : Int), by simp [upd, undef, *], Below.refl _ _, rfl⟩
                · simp at ho
                  subst ho
                  simp [Region.binds] at hpre
                  refine wpOpIn_step rfl (fun K' hK => ?_)
                  simp only [Region.wanted]
                  have HK := Lib.hid hK
                  clear hK
                  gi_wp2
                  exact HK.out _ _ ⟨Value.pointer (some ⟨bl, ol + k * 4, none⟩), by simp [upd, undef, *], Below.refl _ _, rfl⟩
                · simp at ho
                  subst ho
                  simp [Region.binds] at hpre
                  refine wpOpIn_step rfl (fun K' hK => ?_)
                  simp only [Region.wanted]
                  have HK := Lib.hid hK
                  clear hK
                  gi_wp2
                  exact HK.out _ _ ⟨Value.pointer (some ⟨bl, ol + k * 4 + 3, none⟩), by simp [upd, undef, *], Below.refl _ _, rfl⟩
                · simp at ho
                  subst ho
                  simp [Region.binds] at hpre
                  refine wpOpIn_step rfl (fun K' hK => ?_)
                  simp only [Region.wanted]
                  have HK := Lib.hid hK
                  clear hK
                  gi_wp2
                  exact HK.out _ _ ⟨Value.int .i64 cap, by simp [upd, undef, *], Below.refl _ _, rfl⟩
                · simp at ho
                  subst ho
                  simp [Region.binds] at hpre
                  have F := Lib.hid (fun W => @fromInt_q W cap (by omega) (by omega))
                  refine wpOpIn_step rfl (fun K' hK => ?_)
                  simp only [Region.wanted]
                  have HK := Lib.hid hK
                  clear hK
                  gi_wp2_with (gi_at_call 49; (with_reducible refine CallsIn.mono (callsIn_wide.2 (F.out _)) ?_); rintro e w1 ⟨n7, A7, l7, c7, m7, D7, e7, g7, rfl, hb1, hr1⟩)
                  refine HK.out _ _ ⟨(.agg #[.bool n7, .slice A7 l7 c7, .bool m7, .slice D7 e7 g7]), by simp [upd, undef, Qx.v, Qx.zero, *], hb1, ⟨⟨n7, .slice A7 l7 c7, m7, .slice D7 e7 g7⟩, rfl, hr1.any⟩⟩
                · simp at ho
                  subst ho
                  simp [Region.binds] at hpre
                  obtain ⟨⟨p, g5, hp⟩, ⟨p', g12, hp'⟩⟩ := hpre
                  obtain ⟨n5, ⟨A6, l6, c6⟩, m5, ⟨D5, e5, g5'⟩, rfl⟩ := Qx.shape (isQc.slices hp)
                  obtain ⟨n6, ⟨A9, l9, c9⟩, m6, ⟨D6, e6, g6⟩, rfl⟩ := Qx.shape (isQc.slices hp')
                  simp only [Qx.v] at g5 g12 hp hp'
                  have HF := Lib.hid (mul_q (isQc.q hp HFBB.out) (isQc.q hp' HCB.out) (by omega) (by omega) (by omega) (by omega))
                  refine wpOpIn_step rfl (fun K' hK => ?_)
                  simp only [Region.wanted]
                  have HK := Lib.hid hK
                  clear hK
                  gi_wp2_with (gi_at_call 48; (with_reducible refine CallsIn.mono (callsIn_wide.2 HF.out) ?_); rintro e w1 ⟨n7, A7, l7, c7, m7, D7, e7, g7, rfl, hb1, hr1⟩)
                  refine HK.out _ _ ⟨(.agg #[.bool n7, .slice A7 l7 c7, .bool m7, .slice D7 e7 g7]), by simp [upd, undef, Qx.v, Qx.zero, *], hb1, ⟨⟨n7, .slice A7 l7 c7, m7, .slice D7 e7 g7⟩, rfl, hr1.any⟩⟩
                · simp at ho
                  subst ho
                  simp [Region.binds] at hpre
                  obtain ⟨g0, p, g13, hp⟩ := hpre
                  obtain ⟨n6, ⟨A6, l6, c6⟩, m6, ⟨D6, e6, g6⟩, rfl⟩ := Qx.shape (isQc.slices hp)
                  simp only [Qx.v] at g13 hp
                  have HF := Lib.hid (add_q (isQc.q (cq_stable.below HSV.out hbw) HSB.out) (isQc.q hp (qB_mul HFBB.out HCB.out)) (by omega) (by omega) (by omega) (by omega))
                  refine wpOpIn_step rfl (fun K' hK => ?_)
                  simp only [Region.wanted]
                  have HK := Lib.hid hK
                  clear hK
                  gi_wp2_with (gi_at_call 29; (with_reducible refine CallsIn.mono (callsIn_wide.2 HF.out) ?_); rintro e w1 ⟨n7, A7, l7, c7, m7, D7, e7, g7, rfl, hb1, hr1⟩)
                  refine HK.out _ _ ⟨(.agg #[.bool n7, .slice A7 l7 c7, .bool m7, .slice D7 e7 g7]), by simp [upd, undef, Qx.v, Qx.zero, *], hb1, ⟨⟨n7, .slice A7 l7 c7, m7, .slice D7 e7 g7⟩, rfl, hr1.any⟩⟩
              case fin =>
                intro u W' hR hY
                have hbw : Below wo.heap.size wo W' := bthen (bdr (b0 wo)) hR
                obtain ⟨p, g14, hp⟩ := hY 14 (by omega)
                obtain ⟨n5, ⟨A6, l6, c6⟩, m5, ⟨D5, e5, g5'⟩, rfl⟩ := Qx.shape (isQc.slices hp)
                simp only [Qx.v] at g14 hp
                have hbk := HBk.out.below hbw
                have hsl := isQc.slices HSm.out
                obtain ⟨z0, z1, z2, z3⟩ := four1 (n3 := .bool yn) (s3 := .slice yA yl yc) (m3 := .bool ym) (t3 := .slice yB yl2 yc2) hbk
                have zf := fun j => hbk.frozen j
                have hlt9 := hbk.lt
                have H1 := Lib.hid (st4_blk0 (z := ⟨n5, .slice A6 l6 c6, m5, .slice D5 e5 g5'⟩) hbk)
                have H2 := Lib.hid (st4_el0 cq_stable (z := ⟨n5, .slice A6 l6 c6, m5, .slice D5 e5 g5'⟩) hbk hsl hp)
                have H4 := Lib.hid (st4_belowB (o := 0) (y := ⟨n5, .slice A6 l6 c6, m5, .slice D5 e5 g5'⟩) (b := wd.heap.size) (bthen HBL.out hbw) (Nat.le_refl _))
                clear hY hp hbk hsl hR hbw kk
                refine wpTail_step (i' := 16) (c := 0) rfl ?_
                rw [g14]
                refine wpOpIn_step rfl (fun K' hK => ?_)
                simp only [Region.wanted, List.getElem_toArray, List.getElem_cons_succ, List.getElem_cons_zero]
                have HK := Lib.hid hK
                clear hK
                gi_wp2
                refine HK.out _ _ (wpTail_end ?_)
                clear HK
                go_wp2
                go_roundg (ls.length - (k + 1))
                case rel =>
                  refine ⟨k + 1, ⟨n5, .slice A6 l6 c6, m5, .slice D5 e5 g5'⟩, rfl, by omega, val_int (by omega), H1, Lib.hid ?_, H4⟩
                  rw [HMS.out]; exact H2.out
                case measure => omega
            · obtain rfl : k = ls.length := by omega
              have HSV := Lib.hid (show cq wo (.agg #[.bool yn, .slice yA yl yc, .bool ym, .slice yB yl2 yc2]) (mostL ls L ls.length) from HSm.out)
              go_wp2
              have HMB := Lib.hid ((HMQ.out ls.length).mono (show ls.length * (K + 2 + 1) + 1 ≤ 20000000 by have := Nat.mul_le_mul (show ls.length ≤ 10 by omega) (show K + 2 + 1 ≤ 1048579 by omega); omega))
              refine (wpIn_wide (n := 10)).1 ?_
              refine wpIn_region_Y (by kernel_rfl) (by kernel_rfl) 5 1 rfl (by kernel_rfl) (fun u => { tmps := List.toArray ((Value.agg #[Value.int IntKind.i64 ↑n, Value.slice A1 ls.length c1]) :: (Value.slice A2 l2 c2) :: (Value.slice A3 l3 c3) :: (Value.slice A4 l4 c4) :: (Value.slice B7 ls.length d7) :: (Value.pointer (some { block := w.heap.size, off := 0 })) :: undef :: undef :: undef :: undef :: (Value.bool false) :: (Value.slice B4 k4 d4) :: (Value.int IntKind.i64 0) :: (Value.slice B5 k5 d5) :: (Value.int IntKind.i64 0) :: (Value.slice B6 k6 d6) :: (Value.int IntKind.i64 0) :: (Value.slice B8 k8 d8) :: (Value.slice B9 k9 d9) :: (Value.int IntKind.i64 0) :: (Value.bool true) :: (Value.int IntKind.i64 0) :: (Value.pointer (some { block := wd.heap.size, off := 0 })) :: (Value.int IntKind.i64 ↑ls.length) :: (Value.agg #[Value.int IntKind.i64 ↑n, Value.slice A1 ls.length c1]) :: (Value.slice A2 l2 c2) :: (Value.slice A3 l3 c3) :: (Value.bool false) :: (Value.bool false) :: (Value.slice A4 l4 c4) :: (Value.slice A5 l5 c5) :: (Value.slice (some { block := w1.heap.size, off := 0 }) 2 2) :: (Value.bool false) :: (Value.bool false) :: (Value.bool false) :: (Value.bool true) :: (Value.bool false) :: (Value.bool false) :: undef :: (Value.tuple #[Value.slice B4 k4 d4, Value.int IntKind.i64 0]) :: (Value.agg #[Value.int IntKind.i64 ↑n, Value.slice A1 ls.length c1]) :: (Value.slice A2 l2 c2) :: (Value.slice A3 l3 c3) :: (Value.tuple #[Value.slice B4 k4 d4, Value.int IntKind.i64 0]) :: (Value.slice B4 k4 d4) :: (Value.int IntKind.i64 0) :: (Value.int IntKind.i64 0) :: (Value.bool false) :: undef :: undef :: undef :: (Value.tuple #[Value.slice B5 k5 d5, Value.int IntKind.i64 0]) :: (Value.agg #[Value.int IntKind.i64 ↑n, Value.slice A1 ls.length c1]) :: (Value.slice A2 l2 c2) :: (Value.tuple #[Value.slice B5 k5 d5, Value.int IntKind.i64 0]) :: (Value.slice B5 k5 d5) :: (Value.int IntKind.i64 0) :: (Value.tuple #[Value.slice B6 k6 d6, Value.int IntKind.i64 0]) :: (Value.agg #[Value.int IntKind.i64 ↑n, Value.slice A1 ls.length c1]) :: (Value.slice A2 l2 c2) :: (Value.tuple #[Value.slice B6 k6 d6, Value.int IntKind.i64 0]) :: (Value.slice B6 k6 d6) :: (Value.int IntKind.i64 0) :: (Value.int IntKind.i64 0) :: (Value.bool false) :: (Value.bool false) :: (Value.int IntKind.i64 0) :: (Value.bool false) :: (Value.bool false) :: (Value.slice A5 l5 c5) :: (Value.pointer (some { block := w.heap.size, off := 1 })) :: (Value.slice A1 ls.length c1) :: (Value.int IntKind.i64 ↑ls.length) :: (Value.slice B7 ls.length d7) :: (Value.slice B5 k5 d5) :: (Value.slice A4 l4 c4) :: (Value.slice B6 k6 d6) :: (Value.slice B7 ls.length d7) :: (Value.slice B8 k8 d8) :: (Value.tuple #[Value.slice B9 k9 d9, Value.int IntKind.i64 0]) :: (Value.slice A3 l3 c3) :: (Value.slice B8 k8 d8) :: (Value.tuple #[Value.slice B9 k9 d9, Value.int IntKind.i64 0]) :: (Value.slice B9 k9 d9) :: (Value.int IntKind.i64 0) :: (Value.tuple #[Value.bool true, Value.int IntKind.i64 0]) :: (Value.agg #[Value.int IntKind.i64 ↑n, Value.slice A1 ls.length c1]) :: (Value.slice A2 l2 c2) :: (Value.slice A3 l3 c3) :: (Value.tuple #[Value.bool true, Value.int IntKind.i64 0]) :: (Value.bool true) :: (Value.int IntKind.i64 0) :: (Value.int IntKind.i64 0) :: (Value.bool false) :: (Value.bool false) :: (Value.int IntKind.i64 0) :: (Value.bool false) :: (Value.bool false) :: (Value.bool false) :: (Value.slice B9 k9 d9) :: (Value.agg #[Value.bool nb, Value.slice Ab lb cb, Value.bool mb, Value.slice Db eb gb]) :: (Value.slice B7 ls.length d7) :: (Value.slice B4 k4 d4) :: (Value.agg #[Value.bool nc, Value.slice Ac lc cc, Value.bool mc, Value.slice Dc ec gc]) :: (Value.bool true) :: (Value.bool false) :: (Value.bool false) :: (Value.bool true) :: (Value.bool false) :: (Value.agg #[Value.bool false, Value.slice none 0 0, Value.bool false, Value.slice none 0 0]) :: (Value.int IntKind.i64 ↑ls.length) :: (Value.pointer (some { block := w.heap.size, off := 1 })) :: (Value.slice A1 ls.length c1) :: (Value.int IntKind.i64 ↑ls.length) :: (Value.bool false) :: u115 :: u116 :: u117 :: u118 :: u119 :: u120 :: u121 :: u122 :: u123 :: u124 :: u125 :: u126 :: u127 :: u128 :: u129 :: u130 :: u131 :: (u 0) :: (u 1) :: (u 2) :: (u 3) :: (u 4) :: []), defers := [] }) (fun _ => undef) rfl (fun W1 W2 => Below W1.heap.size W1 W2) (fun _ => Below.refl _ _) (fun h1 h2 => bthen h1 h2)
                (fun j9 v W1 => match j9 with
                  | 0 => v = Value.slice B9 k9 d9
                  | 1 => ∃ p : Qx, v = p.v ∧ isQc (fun _ => True) W1 p.v (totL Y)
                  | 2 => v = Value.agg #[.bool yn, .slice yA yl yc, .bool ym, .slice yB yl2 yc2]
                  | 3 => v = Value.int .i64 (qs (totL Y - mostL ls L ls.length))
                  | 4 => v = Value.bool (decide (qs (totL Y - mostL ls L ls.length) ≤ 0))
                  | _ => True) ?hY ?step ?fin
              case hY =>
                intro k v W1 W2 h hb
                match k, h with
                | 0, h => exact h
                | 1, ⟨p, e, h⟩ => exact ⟨p, e, isQc.below h hb⟩
                | 2, h => exact h
                | 3, h => exact h
                | 4, h => exact h
                | k + 5, h => trivial
              case step =>
                intro u W' j o hj ho hR hpre
                have hbw : Below wo.heap.size wo W' := bthen (bdr (b0 wo)) hR
                obtain ⟨z0, z1, z2, z3⟩ := four1 (n3 := .bool yn) (s3 := .slice yA yl yc) (m3 := .bool ym) (t3 := .slice yB yl2 yc2) (HBk.out.below hbw)
                obtain rfl | rfl | rfl | rfl | rfl : j = 0 ∨ j = 1 ∨ j = 2 ∨ j = 3 ∨ j = 4 := by omega
                · simp at ho
                  subst ho
                  simp [Region.binds] at hpre
                  refine wpOpIn_step rfl (fun K' hK => ?_)
                  simp only [Region.wanted]
                  have HK := Lib.hid hK
                  clear hK
                  gi_wp2
                  exact HK.out _ _ ⟨Value.slice B9 k9 d9, by simp [upd, undef, *], Below.refl _ _, rfl⟩
                · simp at ho
                  subst ho
                  simp [Region.binds] at hpre
                  have HF := Lib.hid (HCa2.out W' (bthen HBL.out hbw))
                  refine wpOpIn_step rfl (fun K' hK => ?_)
                  simp only [Region.wanted]
                  have HK := Lib.hid hK
                  clear hK
                  gi_wp2_with (gi_at_call 46; (with_reducible refine CallsIn.mono (callsIn_wide.2 HF.out) ?_); rintro e w1 ⟨n7, A7, l7, c7, m7, D7, e7, g7, rfl, hb1, hr1⟩)
                  refine HK.out _ _ ⟨(.agg #[.bool n7, .slice A7 l7 c7, .bool m7, .slice D7 e7 g7]), by simp [upd, undef, Qx.v, Qx.zero, *], hb1, ⟨⟨n7, .slice A7 l7 c7, m7, .slice D7 e7 g7⟩, rfl, hr1.any⟩⟩
                · simp at ho
                  subst ho
                  simp [Region.binds] at hpre
                  refine wpOpIn_step rfl (fun K' hK => ?_)
                  simp only [Region.wanted]
                  have HK := Lib.hid hK
                  clear hK
                  gi_wp2
                  exact HK.out _ _ ⟨Value.agg #[.bool yn, .slice yA yl yc, .bool ym, .slice yB yl2 yc2], by simp [upd, undef, *], Below.refl _ _, rfl⟩
                · simp at ho
                  subst ho
                  simp [Region.binds] at hpre
                  obtain ⟨⟨p, g1, hp⟩, g2⟩ := hpre
                  obtain ⟨n6, ⟨A6, l6, c6⟩, m6, ⟨D6, e6, g6⟩, rfl⟩ := Qx.shape (isQc.slices hp)
                  simp only [Qx.v] at g1 hp
                  have HF := Lib.hid (cmp_q (isQc.q hp HTQ.out) (isQc.q (cq_stable.below HSV.out hbw) HMB.out) (by omega) (by omega) (by omega) (by omega))
                  refine wpOpIn_step rfl (fun K' hK => ?_)
                  simp only [Region.wanted]
                  have HK := Lib.hid hK
                  clear hK
                  gi_wp2_with (gi_at_call 31; (with_reducible refine CallsIn.mono (callsIn_wide.2 HF.out) ?_); rintro e w1 ⟨rfl, hb1⟩)
                  refine HK.out _ _ ⟨Value.int .i64 (qs (totL Y - mostL ls L ls.length)), by simp [upd, undef, Qx.v, Qx.zero, *], hb1, rfl⟩
                · simp at ho
                  subst ho
                  simp [Region.binds] at hpre
                  refine wpOpIn_step rfl (fun K' hK => ?_)
                  simp only [Region.wanted]
                  have HK := Lib.hid hK
                  clear hK
                  gi_wp2
                  exact HK.out _ _ ⟨Value.bool (decide (qs (totL Y - mostL ls L ls.length) ≤ 0)), by simp [upd, undef, *], Below.refl _ _, rfl⟩
              case fin =>
                intro u W' hR hY
                have hbw : Below wo.heap.size wo W' := bthen (bdr (b0 wo)) hR
                have g4 : u 4 = Value.bool (decide (qs (totL Y - mostL ls L ls.length) ≤ 0)) := hY 4 (by omega)
                have hle : decide (qs (totL Y - mostL ls L ls.length) ≤ 0) = true := by
                  refine decide_eq_true (Int.not_lt.1 (fun h => ?_))
                  have h1 := qs_sub_pos.1 h
                  have h2 := HBND2.out
                  rw [HLAW.out] at h1
                  exact absurd h1 (Rat.not_lt.2 h2)
                rw [hle] at g4
                have HBW := Lib.hid (bthen HBd.out (bthen HBL.out hbw))
                clear hY hR hbw hle
                refine wpTail_step (i' := 6) (c := 0) rfl ?_
                rw [g4]
                refine wpOpIn_step rfl (fun K' hK => ?_)
                simp only [Region.wanted, List.getElem_toArray, List.getElem_cons_succ, List.getElem_cons_zero]
                have HK := Lib.hid hK
                clear hK
                gi_wp2
                refine HK.out _ _ (wpTail_end ?_)
                clear HK
                go_wp2
                go_ret
                exact ⟨rfl, HBW.out⟩
      · go_wp2_with fail
        go_at_call 38
        refine Calls.mono (HFL.out _ HB3.out) ?_
        rintro e w4 ⟨hb4, hy, _⟩
        obtain rfl := hy hE
        have hE' : (flowsE b ls out rs == 0) = false := by simpa using hE
        have HB4 := Lib.hid (bthen HB3.out hb4)
        clear hb4 hy
        go_wp2
        go_ret
        exact ⟨rfl, HB4.out⟩
end Go.Proofs.YtdkfdamihnieiaaGreat
end
