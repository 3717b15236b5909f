/- pylonlaw38.RightTotal. -/
import Derived.Test.YtdkfdamihnieiaaGreatG33
set_option linter.unusedSimpArgs false
set_option linter.unusedVariables false
section
open Go Go.RowKit Go.Shelf
namespace Go.Proofs.YtdkfdamihnieiaaGreat
open Go.Proofs
attribute [local go_sem] Oper.semAt_some wide_fn wide_depth
theorem isQ_mono {ok w v q B B'} (h : isQ ok w v q B) (hB : B ≤ B') : isQ ok w v q B' := by
  obtain ⟨n, s, m, t, a, b, e, h1, h2, h3⟩ := h
  exact ⟨n, s, m, t, a, b, e, h1.mono (fun _ _ h => h) hB, h2.mono (fun _ _ h => h) hB, h3⟩
theorem vq_wider {n0 B B' : Nat} {w : World} {v : Value} {qs : List Rat} (h : Vq n0 (rq B) w v qs) (hB : B ≤ B') : Vq n0 (rq B') w v qs := h.imp (fun _ _ _ h => isQ_mono h hB)
/-- One vector, handed on as a list of vectors. -/
theorem vm_one {n0 B : Nat} {w : World} {v : Value} {qs : List Rat} (h : Vq n0 (rq B) w v qs) : Vm n0 (rq B) (w.alloc (.cells #[v] 26)) (.slice (some ⟨w.heap.size, 0, none⟩) 1 1) [qs] := by
  refine ⟨_, 1, rfl, Nat.le_refl _, by unfold maxLen; omega, fun _ => ⟨w.heap.size, 0, rfl, fun j hj => ?_⟩⟩
  obtain rfl : j = 0 := by simp at hj; omega
  exact ⟨v, by rw [World.cell?_alloc_new]; rfl, h.below (rq_stable B) (bal (b0 w))⟩
set_option maxRecDepth 100000 in
set_option maxHeartbeats 4000000 in
theorem rightTotal_c {n0 K : Nat} {w : World} {vr vp : Value} {rs : List Rt} {ps : List Rat} (hr : Vr w vr rs) (hrb : ∀ x ∈ rs, -9223372036854775808 ≤ x.q ∧ x.q ≤ 9223372036854775807) (hp : Vq n0 (rq K) w vp ps) (hK2 : 2 ≤ K) (hK : K ≤ 1048576) : Calls Tryz.prog 16 #[vr, vp] w (RetO w (.bool true)) := by
  have HR := Lib.hid hr
  have HP := Lib.hid hp
  have HRB := Lib.hid hrb
  obtain ⟨A1, l1, c1, rfl⟩ := hr.shape
  obtain ⟨A2, l2, c2, rfl⟩ := hp.shape
  have e1 := hr.len
  have e2 := hp.len_eq
  subst e1 e2
  have hm1 := hr.lim
  have hm2 : ps.length ≤ 9223372036854775807 := by have h1 := hp.rv.cap; have h2 := hp.rv.lim; unfold maxLen at h2; omega
  clear hr hp hrb
  by_cases h30 : 30 < rs.length
  · have h30' : (rs.length : Int) > 30 := by omega
    clear h30
    go_enter Tryz.func16, Tryz.ntmps16
    go_wp2_with (go_at_call 37; (with_reducible refine Calls.mono (awake_c _) ?_); rintro e w1 ⟨rfl, hb1⟩)
    go_ret
    exact ⟨rfl, hb1⟩
  · have h30' : decide (30 < (rs.length : Int)) = false := by simp; omega
    by_cases h6 : 6 < ps.length
    · have h6' : (ps.length : Int) > 6 := by omega
      clear h6
      go_enter Tryz.func16, Tryz.ntmps16
      go_wp2_with (go_at_call 37; (with_reducible refine Calls.mono (awake_c _) ?_); rintro e w1 ⟨rfl, hb1⟩)
      go_ret
      exact ⟨rfl, hb1⟩
    · have h6' : decide (6 < (ps.length : Int)) = false := by simp; omega
      have HLG := Lib.hid (long_c (vm_one HP.out))
      have h30n : rs.length ≤ 30 := by omega
      have h6n : ps.length ≤ 6 := by omega
      clear h30 h6
      go_enter Tryz.func16, Tryz.ntmps16
      go_wp2_with fail
      go_at_call 36
      refine Calls.mono HLG.out ?_
      rintro e w1 ⟨⟨bb, rfl⟩, hb1⟩
      have HB1 := Lib.hid (bthen (bal (b0 w)) hb1)
      clear hb1
      cases bb with
      | true =>
        go_wp2_with (go_at_call 37; (with_reducible refine Calls.mono (awake_c _) ?_); rintro e w2 ⟨rfl, hb2⟩)
        go_ret
        exact ⟨rfl, bthen HB1.out hb2⟩
      | false =>
        have HPY := Lib.hid (fun W (hb : Below w.heap.size w W) => pays_c (HR.out.below hb) (HP.out.below (rq_stable K) hb) hK2 (by omega) HRB.out (by omega))
        go_wp2_with (first
          | (go_at_call 37; (with_reducible refine Calls.mono (awake_c _) ?_); rintro e w2 ⟨rfl, hb2⟩; have HB2 := Lib.hid (bthen HB1.out hb2); have HP2 := Lib.hid (HPY.out w2 HB2.out); clear hb2))
        go_at_call 43
        refine Calls.mono HP2.out ?_
        rintro e w3 ⟨hb3, hy, hn⟩
        have HB3 := Lib.hid (bthen HB2.out hb3)
        clear hb3
        by_cases hall : rs.all (inr ps.length) = true
        · obtain ⟨A3, l3, c3, rfl, hv3⟩ := hy hall
          have hpl : (payL ps rs).length = rs.length := by unfold payL; simp
          have hl3 := hv3.len_eq
          rw [hpl] at hl3
          subst hl3
          have HT := Lib.hid (total_rent hall)
          have hpb : ∀ q ∈ payL ps rs, qB q (2 * K + 3) := by
            intro q hq
            unfold payL at hq
            obtain ⟨j, hj, rfl⟩ := List.mem_map.1 hq
            have hj2 := List.mem_range.1 hj
            unfold payF
            have hmj : rs.getD j Rt.zero ∈ rs := by rw [List.getD_eq_getElem?_getD, List.getElem?_eq_getElem hj2]; exact List.getElem_mem _
            obtain ⟨q1, q2⟩ := HRB.out _ hmj
            obtain ⟨g, hg⟩ := HP.out.view (rq_ratl (by omega : 0 < K))
            have hk := fun t => isQ.size (hg.el t) (by omega : 0 < K)
            have h5 := qB_add (hk (rs.getD j Rt.zero).t.toNat) (qB_neg (hk (rs.getD j Rt.zero).f.toNat))
            rw [← Rat.sub_eq_add_neg] at h5
            exact (qB_mul (qB_int q1 q2) h5).mono (by omega)
          have HTQ := Lib.hid (totL_qB hpb)
          have HV3 := Lib.hid (hv3.imp (fun v q hq h => cq_rq h (hpb q hq)))
          have HTO := Lib.hid (total_c HV3.out (by omega) (by rw [hpl]; have := Nat.mul_le_mul (show rs.length ≤ 30 by omega) (show 2 * K + 3 + 1 ≤ 2097156 by omega); omega) (by omega))
          have HIN := Lib.hid (fun W (hb : Below w.heap.size w W) => in_c (n0 := n0) (HR.out.below hb) ps.length (by omega) HRB.out (by omega))
          have HINB := Lib.hid (fun j => (inL_qB ps.length rs HRB.out j).mono (show rs.length * 6 + 1 ≤ 2000000 by omega))
          have HINL := Lib.hid (inL_length ps.length rs)
          obtain ⟨iv, hiv⟩ : ∃ iv, iv = inL ps.length rs := ⟨_, rfl⟩
          rw [← hiv] at HT HIN HINB HINL
          obtain ⟨tt, htt⟩ : ∃ tt, tt = totL (payL ps rs) := ⟨_, rfl⟩
          rw [← htt] at HT HTQ HTO
          rw [hpl] at HTQ
          have HRT := Lib.hid (fun W v (hb : Below w.heap.size w W) (hv : Vq n0 cq W v iv) => rent_c (B := 2000000) (vq_wider (HP.out.below (rq_stable K) hb) (by omega)) (hv.imp (fun v q hq h => cq_rq h (by
            obtain ⟨t, ht, rfl⟩ := List.getElem_of_mem hq
            have := HINB.out t
            rw [List.getD_eq_getElem?_getD, List.getElem?_eq_getElem ht] at this
            exact this))) (by omega) (by omega) (by rw [HINL.out]; omega))
          clear hv3 hpb hpl hiv htt hy hn hall
          go_wp2_with (first
            | (go_at_call 46; (with_reducible refine Calls.mono HTO.out ?_); rintro e w4 ⟨n4, A4, l4, c4, m4, D4, e4, g4, rfl, hb4, hr4⟩; have HB4 := Lib.hid (bthen HB3.out hb4); have HQ4 := Lib.hid (isQc.q hr4 HTQ.out); have HI4 := Lib.hid (HIN.out w4 HB4.out); clear hb4 hr4)
            | (go_at_call 73; (with_reducible refine Calls.mono HI4.out ?_); rintro e w5 ⟨A5, l5, c5, rfl, hb5, hv5, _⟩; have HB5 := Lib.hid (bthen HB4.out hb5); have HQ5 := Lib.hid (HQ4.out.below hb5); have HR5 := Lib.hid (HRT.out w5 _ HB5.out hv5); clear hb5 hv5)
            | (go_at_call 72; (with_reducible refine Calls.mono HR5.out ?_); rintro e w6 ⟨n6, A6, l6, c6, m6, D6, e6, g6, rfl, hb6, hr6⟩; have HB6 := Lib.hid (bthen HB5.out hb6); rw [← HT.out] at hr6; have HE6 := Lib.hid (equal_q (HQ5.out.below hb6) (isQc.q hr6 HTQ.out) (by omega) (by omega) (by have := Nat.mul_le_mul (show rs.length ≤ 30 by omega) (show 2 * K + 3 + 1 ≤ 2097156 by omega); omega) (by have := Nat.mul_le_mul (show rs.length ≤ 30 by omega) (show 2 * K + 3 + 1 ≤ 2097156 by omega); omega)); clear hb6 hr6)
            | (go_at_call 45; (with_reducible refine Calls.mono HE6.out ?_); rintro e w7 ⟨rfl, hb7⟩; have HB7 := Lib.hid (bthen HB6.out hb7); clear hb7))
          go_ret
          exact ⟨rfl, HB7.out⟩
        · have hf : rs.all (inr ps.length) = false := by simpa using hall
          obtain rfl := hn hf
          clear hy hn hall hf
          go_wp2
          go_ret
          exact ⟨rfl, HB3.out⟩
end Go.Proofs.YtdkfdamihnieiaaGreat
end
