/- shift.Factors. -/
import Derived.Test.YtdkfdamihnieiaaGreatG29
import Derived.Test.YtdkfdamihnieiaaGreatG24
set_option linter.unusedSimpArgs false
set_option linter.unusedVariables false
section
open Go Go.RowKit Go.Shelf
namespace Go.Proofs.YtdkfdamihnieiaaGreat
open Go.Proofs
attribute [local go_sem] Oper.semAt_some wide_fn wide_depth
theorem pow5 {n : Nat} (h : n ≤ 6) : 5 ^ n ≤ 15625 := Nat.le_trans (Nat.pow_le_pow_right (by omega) h) (by decide)
theorem lnIn_of {n : Nat} {ls : List Ln} (h : ls.all (lnok (n : Int)) = true) {l : Ln} (hl : l ∈ ls) : lnIn n l := by
  have := lnok_of h hl
  exact ⟨this.1, this.2.1, this.2.2.1, this.2.2.2.1, this.2.2.2.2.2.1, this.2.2.2.2.2.2.1⟩
theorem refsS_lt {n : Nat} {ls : List Ln} {r : Nat} (h : r ∈ refsS n ls) : r < n := by
  unfold refsS selfS at h
  exact List.mem_range.1 (List.mem_filter.1 h).1
theorem Blk.c2 {W : World} {b : Nat} {T : TypeId} {x y : Value} (h : Blk W b T [x, y]) : W.cell? ⟨b, 0, none⟩ = some x ∧ W.cell? ⟨b, 1, none⟩ = some y := ⟨h.cell 0, h.cell 1⟩
theorem Blk.c1 {W : World} {b : Nat} {T : TypeId} {x : Value} (h : Blk W b T [x]) : W.cell? ⟨b, 0, none⟩ = some x := h.cell 0
set_option maxRecDepth 100000 in
set_option maxHeartbeats 4000000 in
theorem factors_c {n0 : Nat} {w : World} {n : Nat} {v vo : Value} {ls : List Ln} {out : List Int} (h : Vl w v ls) (ho : Vi w vo out) (he : outsS (n : Int) ls out = 0) (hn0 : n0 ≤ w.heap.size) : Calls Tryz.prog 40 #[.agg #[.int .i64 (n : Int), v], vo] w fun e w' =>
    Below w.heap.size w w' ∧ ((invR (tabF n ls out)).2.length < n → e = .returned (.tuple #[.slice none 0 0, .int .i64 8])) ∧ (n ≤ (invR (tabF n ls out)).2.length → ∃ A l c, e = .returned (.tuple #[.slice A l c, .int .i64 0]) ∧ Vm n0 cq w' (.slice A l c) (facM n ls out)) := by
  obtain ⟨hchk, _, _, _, hol⟩ := outs_ok he
  obtain ⟨hn1, hn6, hll, hall⟩ := chk_ok hchk
  have hn6' : n ≤ 6 := by omega
  have hn1' : 1 ≤ n := by omega
  have HLI := Lib.hid (fun l (hl : l ∈ ls) => lnIn_of hall hl)
  have HLS := Lib.hid h
  have HOS := Lib.hid ho
  have HRF := Lib.hid (fun W (hb : Below w.heap.size w W) => refs_o (h.below hb) (ho.below hb) he)
  have HST := Lib.hid (fun W (hb : Below w.heap.size w W) => strip_o (h.below hb) (ho.below hb) he)
  have htb := tableS_ok n (refsS n (servL ls out)) (servL ls out) (fun l hl => lnIn_of hall (servL_mem hl))
  have hsl := servL_length ls out
  have HTB := Lib.hid (show (tabF n ls out).length = n ∧ widthL (tabF n ls out) n ∧ bndL (tabF n ls out) 201 from ⟨htb.1, htb.2.1, htb.2.2.mono (by omega)⟩)
  obtain ⟨A1, l1, c1, rfl⟩ := h.shape
  obtain ⟨A2, l2, c2, rfl⟩ := ho.shape
  have hl1 := h.len
  have hl2 := ho.len
  subst hl1 hl2
  obtain ⟨ms, hms⟩ : ∃ ms, ms = servL ls out := ⟨_, rfl⟩
  obtain ⟨rs, hrs⟩ : ∃ rs, rs = refsS n ms := ⟨_, rfl⟩
  obtain ⟨tb, htbe⟩ : ∃ tb, tb = tabF n ls out := ⟨_, rfl⟩
  have HTE := Lib.hid (show tb = tableS n rs ms by rw [htbe, hrs, hms]; rfl)
  have HFM := Lib.hid (show facM n ls out = turnS ((List.range n).map (colF n ls out (invL tb))) ls.length by rw [htbe]; rfl)
  have HMI := Lib.hid (show (∀ l ∈ ms, lnIn n l) ∧ (∀ r ∈ rs, r < n) ∧ ms.length ≤ 10 from ⟨fun l hl => by rw [hms] at hl; exact HLI.out l (servL_mem hl), fun r hr => by rw [hrs] at hr; exact refsS_lt hr, by rw [hms]; omega⟩)
  have HCF := Lib.hid (show ∀ inv b, colF n ls out inv b = (List.range ls.length).map fun i => facQ out rs i b (ls.getD i Ln.zero) ((turnS inv n).getD b []) from fun inv b => by rw [hrs, hms]; rfl)
  rw [← hms] at HST HRF
  rw [← hrs] at HRF
  rw [← htbe] at HTB ⊢
  obtain ⟨Q, hQ⟩ : ∃ Q, Q = (invR tb).2.length := ⟨_, rfl⟩
  rw [← hQ]
  have HQ := Lib.hid hQ
  clear h ho he hchk hall hn1 hn6 htb hms hrs htbe hsl hQ
  obtain ⟨w0, hw0⟩ : ∃ w0, w0 = (w.alloc (.cells #[.int .i64 (n : Int), .slice A1 ls.length c1] 24)).alloc (.cells #[.slice A2 out.length c2] 25) := ⟨_, rfl⟩
  have hb0 : Below w.heap.size w w0 := by rw [hw0]; exact bal (bal (b0 w))
  have HB0 := Lib.hid hb0
  have HBH := Lib.hid (show Blk w0 w.heap.size 24 [.int .i64 (n : Int), .slice A1 ls.length c1] by rw [hw0]; exact (Blk.new w [.int .i64 (n : Int), .slice A1 ls.length c1] 24 rfl).al)
  have HBO := Lib.hid (show Blk w0 (w.heap.size + 1) 25 [.slice A2 out.length c2] by rw [hw0]; exact Blk.new _ [.slice A2 out.length c2] 25 (by simp))
  have HR0 := Lib.hid (HRF.out w0 hb0)
  have HW0 := Lib.hid hw0
  rw [hw0] at HR0
  clear hw0 hb0
  have arm1 : True := trivial
  by_cases hp : Q < n
  · go_enter Tryz.func40, Tryz.ntmps40
    go_wp2_with (first
      | (go_at_call 64; (with_reducible refine Calls.mono HR0.out ?_); rintro e w1 ⟨AR, lR, cR, rfl, hb1, hv1⟩; rw [← HW0.out] at hb1; have HB1 := Lib.hid (bthen HB0.out hb1); have HBH1 := Lib.hid (HBH.out.below hb1); have HBO1 := Lib.hid (HBO.out.below hb1); have HV1 := Lib.hid hv1; obtain ⟨x0, x1⟩ := HBH1.out.c2; have x2 := HBO1.out.c1; have s0 := HBH1.out.lt; have s1 := HBO1.out.lt; have HST1 := Lib.hid (HST.out (w1.alloc (.cells #[.slice AR lR cR] 25)) (bal HB1.out)); clear hb1 hv1)
      | (go_at_call 104; (with_reducible refine Calls.mono HST1.out ?_); rintro e w2 ⟨AL, lL, cL, AN, lN, cN, rfl, hb2, hv2, _⟩; have HB2 := Lib.hid (bthen (bal HB1.out) hb2); have HBH2 := Lib.hid ((HBH1.out.al).below hb2); have HBO2 := Lib.hid ((HBO1.out.al).below hb2); have HB62 := Lib.hid ((Blk.new w1 [.slice AR lR cR] 25 rfl).below hb2); have HV12 := Lib.hid ((HV1.out.below (bal (b0 w1))).below hb2); clear x0 x1 x2 s0 s1; obtain ⟨x0, x1⟩ := HBH2.out.c2; have x2 := HBO2.out.c1; have x3 := HB62.out.c1; have s0 := HBH2.out.lt; have s1 := HBO2.out.lt; have s2 := HB62.out.lt; have HTT := Lib.hid (table_c (n0 := n0) (w := w2.alloc (.cells #[.int .i64 (n : Int), .slice AL lL cL] 24)) (v := .slice A1 ls.length c1) ⟨_, _, _, rfl⟩ hn1' hn6' (HV12.out.below (bal (b0 w2))) HMI.out.2.1 (hv2.below (bal (b0 w2))) HMI.out.1 HMI.out.2.2 (Nat.le_trans hn0 (bal HB2.out).size)); clear hb2 hv2)
      | (go_at_call 106; (with_reducible refine Calls.mono HTT.out ?_); rintro e w3 ⟨AT, lT, cT, rfl, hb3, hm3⟩; rw [← HTE.out] at hm3; have HB3 := Lib.hid (bthen (bal HB2.out) hb3); have HBH3 := Lib.hid ((HBH2.out.al).below hb3); have HBO3 := Lib.hid ((HBO2.out.al).below hb3); have HB63 := Lib.hid ((HB62.out.al).below hb3); have HB83 := Lib.hid ((Blk.new w2 [.int .i64 (n : Int), .slice AL lL cL] 24 rfl).below hb3); have HV13 := Lib.hid ((HV12.out.below (bal (b0 w2))).below hb3); have HIV := Lib.hid (inverse_c (B := 201) (hm3.rq (bndL.rows HTB.out.2.2)) (Nat.le_trans hn0 HB3.out.size) (by rw [colsL_width HTB.out.2.1 (by rw [HTB.out.1]; omega), HTB.out.1]) (by rw [HTB.out.1]; omega) (by rw [HTB.out.1]; omega) (by omega) (by rw [HTB.out.1]; have := pow5 hn6'; omega)); rw [HTB.out.1, ← HQ.out] at HIV; clear hb3 hm3 x0 x1 x2 x3 s0 s1 s2)
      | (go_at_call 105; (with_reducible refine Calls.mono HIV.out ?_); rintro e w4 ⟨hb4, hn4, hy4⟩; obtain rfl := hn4 hp; have HB4 := Lib.hid (bthen HB3.out hb4); have HBH4 := Lib.hid (HBH3.out.below hb4); have HBO4 := Lib.hid (HBO3.out.below hb4); have HB64 := Lib.hid (HB63.out.below hb4); have HB84 := Lib.hid (HB83.out.below hb4); have HV14 := Lib.hid (HV13.out.below hb4); obtain ⟨x0, x1⟩ := HBH4.out.c2; have x2 := HBO4.out.c1; have x3 := HB64.out.c1; have s0 := HBH4.out.lt; have s1 := HBO4.out.lt; have s2 := HB64.out.lt; clear hb4 hn4 hy4))
    refine bodyPost_ret (v := .tuple #[.slice none 0 0, .int .i64 8]) ?_ rfl ⟨HB4.out, fun _ => rfl, fun h => absurd hp (by omega)⟩
    simp [results, Tryz.results40, go_sem]
  · go_enter Tryz.func40, Tryz.ntmps40
    go_wp2_with (first
      | (go_at_call 64; (with_reducible refine Calls.mono HR0.out ?_); rintro e w1 ⟨AR, lR, cR, rfl, hb1, hv1⟩; rw [← HW0.out] at hb1; have HB1 := Lib.hid (bthen HB0.out hb1); have HBH1 := Lib.hid (HBH.out.below hb1); have HBO1 := Lib.hid (HBO.out.below hb1); have HV1 := Lib.hid hv1; obtain ⟨x0, x1⟩ := HBH1.out.c2; have x2 := HBO1.out.c1; have s0 := HBH1.out.lt; have s1 := HBO1.out.lt; have HST1 := Lib.hid (HST.out (w1.alloc (.cells #[.slice AR lR cR] 25)) (bal HB1.out)); clear hb1 hv1)
      | (go_at_call 104; (with_reducible refine Calls.mono HST1.out ?_); rintro e w2 ⟨AL, lL, cL, AN, lN, cN, rfl, hb2, hv2, _⟩; have HB2 := Lib.hid (bthen (bal HB1.out) hb2); have HBH2 := Lib.hid ((HBH1.out.al).below hb2); have HBO2 := Lib.hid ((HBO1.out.al).below hb2); have HB62 := Lib.hid ((Blk.new w1 [.slice AR lR cR] 25 rfl).below hb2); have HV12 := Lib.hid ((HV1.out.below (bal (b0 w1))).below hb2); clear x0 x1 x2 s0 s1; obtain ⟨x0, x1⟩ := HBH2.out.c2; have x2 := HBO2.out.c1; have x3 := HB62.out.c1; have s0 := HBH2.out.lt; have s1 := HBO2.out.lt; have s2 := HB62.out.lt; have HTT := Lib.hid (table_c (n0 := n0) (w := w2.alloc (.cells #[.int .i64 (n : Int), .slice AL lL cL] 24)) (v := .slice A1 ls.length c1) ⟨_, _, _, rfl⟩ hn1' hn6' (HV12.out.below (bal (b0 w2))) HMI.out.2.1 (hv2.below (bal (b0 w2))) HMI.out.1 HMI.out.2.2 (Nat.le_trans hn0 (bal HB2.out).size)); clear hb2 hv2)
      | (go_at_call 106; (with_reducible refine Calls.mono HTT.out ?_); rintro e w3 ⟨AT, lT, cT, rfl, hb3, hm3⟩; rw [← HTE.out] at hm3; have HB3 := Lib.hid (bthen (bal HB2.out) hb3); have HBH3 := Lib.hid ((HBH2.out.al).below hb3); have HBO3 := Lib.hid ((HBO2.out.al).below hb3); have HB63 := Lib.hid ((HB62.out.al).below hb3); have HB83 := Lib.hid ((Blk.new w2 [.int .i64 (n : Int), .slice AL lL cL] 24 rfl).below hb3); have HV13 := Lib.hid ((HV12.out.below (bal (b0 w2))).below hb3); have HIV := Lib.hid (inverse_c (B := 201) (hm3.rq (bndL.rows HTB.out.2.2)) (Nat.le_trans hn0 HB3.out.size) (by rw [colsL_width HTB.out.2.1 (by rw [HTB.out.1]; omega), HTB.out.1]) (by rw [HTB.out.1]; omega) (by rw [HTB.out.1]; omega) (by omega) (by rw [HTB.out.1]; have := pow5 hn6'; omega)); rw [HTB.out.1, ← HQ.out] at HIV; clear hb3 hm3 x0 x1 x2 x3 s0 s1 s2)
      | (go_at_call 105; (with_reducible refine Calls.mono HIV.out ?_); rintro e w4 ⟨hb4, hn4, hy4⟩; obtain ⟨AI, lI, cI, rfl, hm4⟩ := hy4 (by omega); have HM4 := Lib.hid hm4; clear hm4; have HB4 := Lib.hid (bthen HB3.out hb4); have HBH4 := Lib.hid (HBH3.out.below hb4); have HBO4 := Lib.hid (HBO3.out.below hb4); have HB64 := Lib.hid (HB63.out.below hb4); have HB84 := Lib.hid (HB83.out.below hb4); have HV14 := Lib.hid (HV13.out.below hb4); obtain ⟨x0, x1⟩ := HBH4.out.c2; have x2 := HBO4.out.c1; have x3 := HB64.out.c1; have s0 := HBH4.out.lt; have s1 := HBO4.out.lt; have s2 := HB64.out.lt; clear hb4 hn4 hy4; have HTU := Lib.hid (turned_c (C := n) HM4.out (by have := invL_width tb; rw [HTB.out.1] at this; exact this) (by omega) (by rw [invL_length, HTB.out.1]; omega)))
      | (go_at_call 107; (with_reducible refine Calls.mono HTU.out ?_); rintro e w5 ⟨AU, lU, cU, rfl, hb5, hm5⟩; have HB5 := Lib.hid (bthen HB4.out hb5); have HBH5 := Lib.hid (HBH4.out.below hb5); have HBO5 := Lib.hid (HBO4.out.below hb5); have HB65 := Lib.hid (HB64.out.below hb5); have HV15 := Lib.hid (HV14.out.below hb5); have HM5 := Lib.hid hm5; have hlU := hm5.len; rw [turnS_length] at hlU; obtain rfl := hlU.symm; clear hb5 hm5 x0 x1 x2 x3 s0 s1 s2))
    obtain ⟨inv, hinv⟩ : ∃ inv, inv = invL tb := ⟨_, rfl⟩
    have HIB := Lib.hid (show bndL inv 4000000 from by
      rw [hinv]
      refine (invL_bnd HTB.out.2.2 (by omega)).mono ?_
      rw [HTB.out.1]; have := pow5 hn6'; omega)
    have HIL := Lib.hid (show inv.length = n by rw [hinv, invL_length, HTB.out.1])
    rw [← hinv] at HM5 HFM
    have HN5 := Lib.hid (Nat.le_trans hn0 HB5.out.size)
    obtain ⟨i0, hi, hz0, hz1, hz2⟩ := info_parts' Tryz.info26
    clear hinv HM4 HTU HIV HTT HST1 HR0 HRF HST hn0
    go_loopg [12, 52] n (fun gh sv iv wr => ∃ (k : Nat) (A' : Option Addr) (c' : Nat) (us : List Value), gh = n - k ∧ k ≤ n ∧ iv = .int .i64 (k : Int) ∧ sv = .slice A' k c' ∧ Hid (MatO (okr (.slice A' k c')) w5.heap.size n0 wr (.slice A' k c') us ((List.range k).map (colF n ls out inv))) ∧ Hid (Below w5.heap.size w5 wr))
    case atStart => exact ⟨0, none, 0, [], rfl, by omega, rfl, rfl, Lib.hid ⟨World.ownsRow_nil _ _ _ _, fun i hi => by simp at hi⟩, Lib.hid (b0 _)⟩
    case round =>
      obtain ⟨k, A', c', us, rfl, hk, rfl, rfl, HMO, HBL⟩ := hrel
      obtain ⟨wr0, rfl⟩ : ∃ wr0 : World, wr0 = wr := ⟨_, rfl⟩
      by_cases hlt : k < n
      · obtain ⟨bq, oq, Aq, cq', hA, hcq, hvq⟩ := (HM5.out.below cq_stable HBL.out).at (k := k) (by rw [turnS_length]; exact hlt)
        subst hA
        obtain ⟨row, hrow⟩ : ∃ row, row = (turnS inv n).getD k [] := ⟨_, rfl⟩
        have hrl : row.length = n := by rw [hrow, turnS_width inv n k (by rw [turnS_length]; exact hlt), HIL.out]
        rw [← hrow] at hcq hvq
        rw [hrl] at hcq hvq
        have HVQ := Lib.hid (show Vq n0 (rq 4000000) wr0 (.slice Aq n cq') row from hvq.imp (fun v q hq h => cq_rq h (by
          rw [hrow] at hq
          have h4 := turnS_bnd (C := n) HIB.out (by omega)
          obtain ⟨t, ht, rfl⟩ := List.getElem_of_mem hq
          have := h4 k t
          unfold atM at this
          rw [List.getD_eq_getElem?_getD (l := (turnS inv n).getD k []), List.getElem?_eq_getElem ht] at this
          exact this)))
        have HRL := Lib.hid hrl
        have HROW := Lib.hid hrow
        have hbq : bq < wr0.heap.size := World.block_lt_of_cell? wr0 _ hcq
        obtain ⟨wa, hwa⟩ : ∃ wa, wa = (wr0.alloc (.cells #[.int .i64 (k : Int)] 3)).alloc (.cells #[.slice Aq n cq'] 26) := ⟨_, rfl⟩
        have hba : Below wr0.heap.size wr0 wa := by rw [hwa]; exact bal (bal (b0 _))
        have HBA := Lib.hid hba
        have KB := Lib.hid (show Blk wa wr0.heap.size 3 [.int .i64 (k : Int)] by rw [hwa]; exact (Blk.new wr0 [.int .i64 (k : Int)] 3 rfl).al)
        have AB := Lib.hid (show Blk wa (wr0.heap.size + 1) 26 [.slice Aq n cq'] by rw [hwa]; exact Blk.new _ [.slice Aq n cq'] 26 (by simp))
        have HBHa := Lib.hid ((HBH5.out.below HBL.out).below hba)
        have HBOa := Lib.hid ((HBO5.out.below HBL.out).below hba)
        have HB6a := Lib.hid ((HB65.out.below HBL.out).below hba)
        have HV1a := Lib.hid ((HV15.out.below HBL.out).below hba)
        have HVQa := Lib.hid (HVQ.out.below (rq_stable _) hba)
        have HBWa := Lib.hid (bthen (bthen HB5.out HBL.out) hba)
        have hsza : wr0.heap.size + 2 = wa.heap.size := by rw [hwa]; simp
        obtain ⟨W1, mk, H0, hltm⟩ := make_O (fun b => wa.heap.size ≤ b) wa ls.length (by omega)
        rw [hwa] at mk
        obtain ⟨x0, x1⟩ := (HBHa.out.below H0.out.below).c2
        obtain ⟨y0, y1⟩ := HBHa.out.c2
        rw [hwa] at y0 y1
        clear hwa hvq hrow hrl hba
        go_wp2
        clear mk y0 y1 x0 x1
        go_loopg [65] ls.length (fun gh iv wi => ∃ (j : Nat) (l' : List Qx), gh = ls.length - j ∧ j ≤ ls.length ∧ iv = .int .i64 (j : Int) ∧ Hid (MadeO (fun b => wa.heap.size ≤ b) wa wi wa.heap.size (fillL (fun i => facQ out rs i k (ls.getD i Ln.zero) row) ls.length j) l'))
        case atStart => exact ⟨0, _, rfl, by omega, rfl, by rw [fillL_zero]; exact H0⟩
        case round =>
          obtain ⟨j, l', rfl, hj, rfl, HMK⟩ := hrel
          obtain ⟨wi, rfl⟩ : ∃ wi : World, wi = wr := ⟨_, rfl⟩
          have hbi := HMK.out.below
          have HBI := Lib.hid hbi
          have hwi := hbi.size
          by_cases hlj : j < ls.length
          · obtain ⟨bl, ol, hAl, hcl⟩ := (HLS.out.below (bthen HBWa.out hbi)).at (by omega)
            subst hAl
            obtain ⟨d0, d1, d2, d3⟩ := hcl j hlj
            have hln := HLI.out (ls.getD j Ln.zero) (by rw [List.getD_eq_getElem?_getD, List.getElem?_eq_getElem hlj]; exact List.getElem_mem hlj)
            obtain ⟨x, hx⟩ : ∃ x, x = ls.getD j Ln.zero := ⟨_, rfl⟩
            rw [← hx] at d0 d1 d2 d3 hln
            have hbl : bl < wi.heap.size := World.block_lt_of_cell? wi _ d0
            have hll : j < l'.length := by rw [HMK.out.len, fillL_length]; exact hlj
            have hbx : Below wa.heap.size wa (wi.alloc (.cells #[.int .i64 x.f, .int .i64 x.t, .int .i64 x.x, .int .i64 x.c] 68)) := bal hbi
            have HFC := Lib.hid (fac_c (n0 := n0) (B := 4000000) (i := j) (b := k) (HOS.out.below (bthen HBWa.out hbx)) (HV1a.out.below hbx) (HVQa.out.below (rq_stable _) hbx) (HBOa.out.below hbx).c1 (HB6a.out.below hbx).c1 (KB.out.below hbx).c1 (AB.out.below hbx).c1 hln HRL.out (by omega) (by omega))
            have HX := Lib.hid hx
            clear hx hcl hln hbx hbi
            go_wp2_with (go_at_call 108; (with_reducible refine Calls.mono HFC.out ?_); rintro e w6 ⟨n3, A3, l3, c3, m3, D3, e3, g3, rfl, hb6, hr6⟩; have hb6' := (bal (b0 wi)).trans (hb6.mono (by simp)); have HM6 := Lib.hid (HMK.out.later hb6'); have HR6 := Lib.hid hr6; obtain ⟨mb, mb', pp, qq, ⟨s0, s1, s2, s3⟩, _⟩ := HM6.out.four hll; have sf := HM6.out.frozen; have s6 := HM6.out.blk.lt; clear hb6 hr6 hb6')
            go_roundg (ls.length - (j + 1))
            case rel =>
              refine ⟨j + 1, l'.set j ⟨n3, .slice A3 l3 c3, m3, .slice D3 e3 g3⟩, rfl, by omega, val_int (by omega), Lib.hid ?_⟩
              have h9 := HM6.out.set (k := j) (y := ⟨n3, .slice A3 l3 c3, m3, .slice D3 e3 g3⟩) hll (HR6.out.mono (fun b _ hb => by unfold fresh at hb; simp at hb; omega))
              rw [HX.out, fillL_set (fun i => facQ out rs i k (ls.getD i Ln.zero) row)] at h9
              exact h9
            case measure => omega
          · obtain rfl : ls.length = j := by omega
            have hcol : fillL (fun i => facQ out rs i k (ls.getD i Ln.zero) row) ls.length ls.length = colF n ls out inv k := by
              rw [fillL_all, HCF.out, ← HROW.out]
            have hmk := HMK.out
            rw [hcol] at hmk
            have hcl : (colF n ls out inv k).length = ls.length := by rw [HCF.out]; simp
            have hll : l'.length = ls.length := by rw [hmk.len, hcl]
            have hbwi : Below wr0.heap.size wr0 wi := bthen HBA.out hbi
            have HBWI := Lib.hid (bthen HBL.out hbwi)
            obtain ⟨NV, hNV⟩ : ∃ NV, NV = Value.slice (some ⟨wa.heap.size, 0, none⟩) ls.length ls.length := ⟨_, rfl⟩
            have hown := HMO.out.own
            rw [List.length_map, List.length_range] at hown
            have HLO := Lib.hid hown
            have hvq : Vq n0 (cqo (okr (.slice A' k c'))) (wi.alloc (.cells #[.slice (some ⟨wa.heap.size, 0, none⟩) ls.length ls.length] 26)) (.slice (some ⟨wa.heap.size, 0, none⟩) ls.length ls.length) (colF n ls out inv k) := by
              have := Blk.vq (n0 := n0) (E := cqo (okr (.slice A' k c'))) (qs := colF n ls out inv k) (c := ls.length) hmk.blk hmk.len (by omega) (by unfold maxLen; omega) (fun j hj => (hmk.el j hj).mono (fun b _ hb e => by
                have := (HLO.out.lt b e).2; omega))
              rw [hll] at this
              exact this.below (cqo_stable _) (bal (b0 _))
            have HVN := Lib.hid hvq
            have HMW := Lib.hid ((HMO.out.later hbwi).later (bal (b0 wi) (o := .cells #[.slice (some ⟨wa.heap.size, 0, none⟩) ls.length ls.length] 26)))
            have hownw := HMW.out.own
            rw [List.length_map, List.length_range] at hownw
            have HOW := Lib.hid hownw
            clear hcol hmk hcl hll hbwi hNV hown hvq hownw hbi
            go_wp2_with (at_builtin; refine wpList_append_1 rfl (.tmp 78) (.tmp 80) 56 rfl w5.heap.size 26 i0 (.slice none 0 0) 1 24 Tryz.under56 hi hz0 hz1 hz2 rfl (by decide) _ _ _ rfl HOW.out ⟨wi.heap.size, 0, none⟩ 1 1 [.slice (some ⟨wa.heap.size, 0, none⟩) ls.length ls.length] rfl rfl ?c1 ?c2 ?c3 ?c4 ?c5 ?_)
            case c1 =>
              intro j u hu
              rw [addr_add0, Nat.zero_add, World.cell?_alloc_new]; simpa using hu
            case c2 => intro u hu; simp at hu; subst hu; simp [Value.oneCell']
            case c3 => unfold maxLen; omega
            case c4 => omega
            case c5 => have := HBWI.out.size; simp; omega
            intro A2' cc w7 hown' hgrow hblk
            have hB7 : Below w5.heap.size w5 w7 := (bal HBWI.out).grown hgrow (by have := HBWI.out.size; simp; omega) (fun g hg => (HLO.out.lt g hg).1)
            have hlen : ((List.range k).map (colF n ls out inv)).length = k := by simp
            have hP := HMW.out.push (v := .slice (some ⟨wa.heap.size, 0, none⟩) ls.length ls.length) (v' := .slice A2' (k + 1) cc) (q := colF n ls out inv k) HN5.out HVN.out (by rw [hlen]; exact hown') hgrow (fun g hg => (hblk g hg).imp_right (fun h => by simpa using h))
            have HP := Lib.hid hP
            have HB7 := Lib.hid hB7
            clear hown' hgrow hblk hP hB7 hlen
            go_wp2
            go_roundg (n - (k + 1))
            case rel => exact ⟨k + 1, A2', cc, us ++ [.slice (some ⟨wa.heap.size, 0, none⟩) ls.length ls.length], rfl, by omega, val_int (by omega), rfl, Lib.hid (by rw [List.range_succ, List.map_append]; exact HP.out), HB7⟩
            case measure => omega
      · obtain rfl : n = k := by omega
        obtain ⟨x0, x1⟩ := (HBH5.out.below HBL.out).c2
        have hM := HMO.out.vm
        have hM2 : Vm n0 cq wr0 (.slice A' n c') ((List.range n).map (colF n ls out inv)) := hM.imp (fun v q _ h => isQc.any h)
        have hW2 : widthL ((List.range n).map (colF n ls out inv)) ls.length := by
          intro i hi
          rw [List.length_map, List.length_range] at hi
          rw [List.getD_eq_getElem?_getD, List.getElem?_map, List.getElem?_range hi]
          show (colF n ls out inv i).length = _
          rw [HCF.out]; simp
        have HTF := Lib.hid (turned_c (C := ls.length) hM2 hW2 (by omega) (by simp; omega))
        have s0 := (HBH5.out.below HBL.out).lt
        clear hM hM2 hW2
        go_wp2_with (go_at_call 107; (with_reducible refine Calls.mono HTF.out ?_); rintro e w8 ⟨AF, lF, cF, rfl, hb8, hm8⟩; have HB8 := Lib.hid hb8; have HM8 := Lib.hid hm8; clear hb8 hm8)
        refine bodyPost_ret (v := .tuple #[.slice AF lF cF, .int .i64 0]) ?_ rfl ⟨bthen (bthen HB5.out HBL.out) HB8.out, fun h => absurd h hp, fun _ => ⟨AF, lF, cF, rfl, by rw [HFM.out]; exact HM8.out⟩⟩
        simp [results, Tryz.results40, go_sem]
end Go.Proofs.YtdkfdamihnieiaaGreat
end
section
/- pylonlaw38.total. -/
open Go Go.RowKit Go.Shelf
namespace Go.Proofs.YtdkfdamihnieiaaGreat
open Go.Proofs
attribute [local go_sem] Oper.semAt_some wide_fn wide_depth
def totL (qs : List Rat) : Rat := qs.foldl (· + ·) 0
theorem totL_take {qs : List Rat} {k : Nat} (hk : k < qs.length) : totL (qs.take (k + 1)) = totL (qs.take k) + qs.getD k 0 := by
  unfold totL
  rw [List.take_succ_eq_append_getElem hk, List.foldl_append, List.getD_eq_getElem?_getD, List.getElem?_eq_getElem hk]; rfl
theorem totL_qB {qs : List Rat} {B : Nat} (h : ∀ q ∈ qs, qB q B) : qB (totL qs) (qs.length * (B + 1) + 1) := by
  unfold totL
  suffices ∀ (a : Rat) (n : Nat), qB a n → qB (qs.foldl (· + ·) a) (n + qs.length * (B + 1)) from (this 0 1 (qB_zero (by omega))).mono (by omega)
  induction qs with
  | nil => intro a n h; simpa using h
  | cons x r ih =>
    intro a n ha
    refine (ih (fun q hq => h q (by simp [hq])) (a + x) (n + B + 1) (qB_add ha (h x (by simp)))).mono ?_
    rw [List.length_cons, Nat.add_mul, Nat.one_mul]; omega
set_option maxRecDepth 100000 in
set_option maxHeartbeats 4000000 in
theorem total_c {n0 B : Nat} {w : World} {v : Value} {qs : List Rat} (h : Vq n0 (rq B) w v qs) (hB0 : 0 < B) (hS : qs.length * (B + 1) + 1 ≤ 400000000) (hB : B ≤ 400000000) : Calls Tryz.prog 46 #[v] w (RetQ w (fun _ => True) (totL qs)) := by
  have hE := rq_ratl hB0
  obtain ⟨A, l, c, rfl⟩ := h.shape
  obtain rfl := h.len_eq
  have hm : qs.length ≤ 9223372036854775807 := by have h1 := h.rv.cap; have h2 := h.rv.lim; unfold maxLen at h2; omega
  have hqs : ∀ q ∈ qs, qB q B := by
    obtain ⟨f, hf⟩ := h.view hE
    intro q hq
    obtain ⟨j, hj, rfl⟩ := List.getElem_of_mem hq
    have := isQ.size (hf.el j) hB0
    rwa [List.getD_eq_getElem?_getD, List.getElem?_eq_getElem hj] at this
  have HQS := Lib.hid hqs
  clear hqs
  refine (callsIn_wide (n := 10)).1 ?_
  refine callsIn_of_wp Tryz.func46 rfl trivial ?_ rfl
  simp only [Tryz.ntmps46, List.size_toArray, List.length_cons, List.length_nil, Nat.reduceAdd, Nat.reduceSub, Array.replicate_succ, Array.replicate_zero, List.push_toArray, List.append_toArray, List.nil_append, List.cons_append]
  gi_wp2
  gi_loopw [4] (fun iv wr => ∃ (k : Nat) (y : Qx), k ≤ qs.length ∧ iv = .int .i64 (k : Int) ∧ Hid (Blk wr (w.heap.size + 1) 44 y.cs) ∧ Hid (cq wr y.v (totL (qs.take k))) ∧ Hid (Blk wr w.heap.size 44 Qx.zero.cs) ∧ Below w.heap.size w wr) (fun iv _ => qs.length - (intOf iv).toNat)
  case atStart => exact ⟨0, Qx.zero, by omega, rfl, Lib.hid (Blk.new4 (by simp)), Lib.hid (cq_ratl.zero _), Lib.hid (Blk.al (Blk.new4 rfl)), bal (bal (b0 w))⟩
  case round =>
    obtain ⟨k, y, hk, rfl, HBk, HSm, HZ, hbl⟩ := hrel
    by_cases hlt : k < qs.length
    · obtain ⟨bv, ov, tn, ts, tm, tt, rfl, elt, x0, x1, x2, x3⟩ := (h.below (rq_stable B) hbl).elem hlt
      obtain ⟨⟨A2, l2, c2, rfl⟩, D2, e2, g2, rfl⟩ := hE.slices elt
      obtain ⟨yn, ⟨yA, yl, yc⟩, ym, ⟨yB, yl2, yc2⟩, rfl⟩ := Qx.shape (isQc.slices HSm.out)
      have htk := totL_take hlt
      have hsb := totL_qB (qs := qs.take k) (fun q hq => HQS.out q (List.mem_of_mem_take hq))
      rw [List.length_take, Nat.min_eq_left hk] at hsb
      obtain ⟨S, hS2⟩ : ∃ S, S = totL (qs.take k) := ⟨_, rfl⟩
      rw [← hS2] at hsb htk HSm
      have HT := Lib.hid htk
      have HSB := Lib.hid hsb
      have hlm2 : k * (B + 1) + 1 ≤ 400000000 := Nat.le_trans (Nat.add_le_add_right (Nat.mul_le_mul_right _ hk) 1) hS
      have HS := Lib.hid (show cq wr (.agg #[.bool yn, .slice yA yl yc, .bool ym, .slice yB yl2 yc2]) S from HSm.out)
      clear htk hsb hS2
      obtain ⟨wo, rfl⟩ : ∃ wo : World, wo = wr := ⟨_, rfl⟩
      have kk : ∀ (W' : World), Below wo.heap.size wo W' → ∀ (a : Addr) (u : Value), wo.cell? a = some u → W'.cell? a = some u := fun W' hb a u h => (hb.cell (World.block_lt_of_cell? wo _ h)).trans h
      gi_wp2
      refine wpIn_region_Y (by kernel_rfl) (by kernel_rfl) 6 1 rfl (by kernel_rfl) (fun u => { tmps := #[.slice (some ⟨bv, ov, none⟩) qs.length c, undef, .pointer (some ⟨w.heap.size, 0, none⟩), .pointer (some ⟨w.heap.size + 1, 0, none⟩), .int .i64 (k : Int), .agg #[.bool false, .slice none 0 0, .bool false, .slice none 0 0], .int .i64 (k : Int), .slice (some ⟨bv, ov, none⟩) qs.length c, .int .i64 (qs.length : Int), .bool true, u10, u11, u 0, u 1, u 2, u 3, u 4, u 5, undef], defers := [] }) (fun k => #[u12, u13, u14, u15, u16, u17].getD k undef) rfl (fun W1 W2 => Below W1.heap.size W1 W2) (fun _ => Below.refl _ _) (fun h1 h2 => bthen h1 h2)
        (fun j9 v W1 => match j9 with
          | 0 => v = .agg #[.bool yn, .slice yA yl yc, .bool ym, .slice yB yl2 yc2]
          | 1 => v = .slice (some ⟨bv, ov, none⟩) qs.length c
          | 2 => v = .int .i64 (k : Int)
          | 3 => v = .pointer (some ⟨bv, ov + k * 4, none⟩)
          | 4 => v = (.agg #[.bool tn, .slice A2 l2 c2, .bool tm, .slice D2 e2 g2])
          | 5 => ∃ p : Qx, v = p.v ∧ isQc (fun _ => True) W1 p.v (S + qs.getD k 0)
          | _ => True) ?hY ?step ?fin
      case hY =>
        intro k v W1 W2 h hb
        match k, h with
        | 0, h => exact h
        | 1, h => exact h
        | 2, h => exact h
        | 3, h => exact h
        | 4, h => exact h
        | 5, ⟨p, e, h⟩ => exact ⟨p, e, isQc.below h hb⟩
        | k + 6, h => trivial
      case step =>
        intro u W' j o hj ho hR hpre
        have hbw : Below wo.heap.size wo W' := bthen (bdr (b0 wo)) hR
        obtain ⟨z0, z1, z2, z3⟩ := four1 (n3 := .bool yn) (s3 := .slice yA yl yc) (m3 := .bool ym) (t3 := .slice yB yl2 yc2) (HBk.out.below hbw)
        have y0 := kk W' hbw _ _ x0
        have y1 := kk W' hbw _ _ x1
        have y2 := kk W' hbw _ _ x2
        have y3 := kk W' hbw _ _ x3
        obtain rfl | rfl | rfl | rfl | rfl | rfl : j = 0 ∨ j = 1 ∨ j = 2 ∨ j = 3 ∨ j = 4 ∨ j = 5 := by omega
        · simp at ho
          subst ho
          simp [Region.binds] at hpre
          refine wpOpIn_step rfl (fun K' hK => ?_)
          simp only [Region.wanted]
          have HK := Lib.hid hK
          clear hK
          gi_wp2
          exact HK.out _ _ ⟨.agg #[.bool yn, .slice yA yl yc, .bool ym, .slice yB yl2 yc2], by simp [upd, undef, *], Below.refl _ _, rfl⟩
        · simp at ho
          subst ho
          simp [Region.binds] at hpre
          refine wpOpIn_step rfl (fun K' hK => ?_)
          simp only [Region.wanted]
          have HK := Lib.hid hK
          clear hK
          gi_wp2
          exact HK.out _ _ ⟨.slice (some ⟨bv, ov, none⟩) qs.length c, by simp [upd, undef, *], Below.refl _ _, rfl⟩
        · simp at ho
          subst ho
          simp [Region.binds] at hpre
          refine wpOpIn_step rfl (fun K' hK => ?_)
          simp only [Region.wanted]
          have HK := Lib.hid hK
          clear hK
          gi_wp2
          exact HK.out _ _ ⟨.int .i64 (k : Int), by simp [upd, undef, *], Below.refl _ _, rfl⟩
        · simp at ho
          subst ho
          simp [Region.binds] at hpre
          refine wpOpIn_step rfl (fun K' hK => ?_)
          simp only [Region.wanted]
          have HK := Lib.hid hK
          clear hK
          gi_wp2
          exact HK.out _ _ ⟨.pointer (some ⟨bv, ov + k * 4, none⟩), by simp [upd, undef, *], Below.refl _ _, rfl⟩
        · simp at ho
          subst ho
          simp [Region.binds] at hpre
          refine wpOpIn_step rfl (fun K' hK => ?_)
          simp only [Region.wanted]
          have HK := Lib.hid hK
          clear hK
          gi_wp2
          exact HK.out _ _ ⟨(.agg #[.bool tn, .slice A2 l2 c2, .bool tm, .slice D2 e2 g2]), by simp [upd, undef, *], Below.refl _ _, rfl⟩
        · simp at ho
          subst ho
          simp [Region.binds] at hpre
          have HF := Lib.hid (add_q (isQc.q (cq_stable.below HS.out hbw) HSB.out) ((rq_stable B).below elt hbw) (by omega) hB0 hlm2 (by omega))
          refine wpOpIn_step rfl (fun K' hK => ?_)
          simp only [Region.wanted]
          have HK := Lib.hid hK
          clear hK
          gi_wp2_with (gi_at_call 29; (with_reducible refine CallsIn.mono (callsIn_wide.2 HF.out) ?_); rintro e w1 ⟨n4, A4, l4, c4, m4, D4, e4, g4, rfl, hb1, hr1⟩)
          refine HK.out _ _ ⟨(.agg #[.bool n4, .slice A4 l4 c4, .bool m4, .slice D4 e4 g4]), by simp [upd, undef, Qx.v, Qx.zero, *], hb1, ⟨n4, .slice A4 l4 c4, m4, .slice D4 e4 g4⟩, rfl, hr1.any⟩
      case fin =>
        intro u W' hR hY
        have hbw : Below wo.heap.size wo W' := bthen (bdr (b0 wo)) hR
        obtain ⟨p, g5, hp⟩ := hY 5 (by omega)
        obtain ⟨n5, ⟨A5, l5, c5⟩, m5, ⟨D5, e5, g5'⟩, rfl⟩ := Qx.shape (isQc.slices hp)
        simp only [Qx.v] at g5 hp
        have hbk := HBk.out.below hbw
        have hsl := isQc.slices HSm.out
        obtain ⟨z0, z1, z2, z3⟩ := four1 (n3 := .bool yn) (s3 := .slice yA yl yc) (m3 := .bool ym) (t3 := .slice yB yl2 yc2) hbk
        have zf := fun j => hbk.frozen j
        have hlt9 := hbk.lt
        have H1 := Lib.hid (st4_blk0 (z := ⟨n5, .slice A5 l5 c5, m5, .slice D5 e5 g5'⟩) hbk)
        have H2 := Lib.hid (st4_el0 cq_stable (z := ⟨n5, .slice A5 l5 c5, m5, .slice D5 e5 g5'⟩) hbk hsl hp)
        have H3 := Lib.hid (st4_blkNe (o := 0) (y := ⟨n5, .slice A5 l5 c5, m5, .slice D5 e5 g5'⟩) (b' := w.heap.size + 1) (HZ.out.below hbw) (by omega))
        have H4 := Lib.hid (st4_belowB (o := 0) (y := ⟨n5, .slice A5 l5 c5, m5, .slice D5 e5 g5'⟩) (b := w.heap.size + 1) (bthen hbl hbw) (by omega))
        clear hY hp hbk hsl hR hbw kk elt x0 x1 x2 x3
        refine wpTail_step (i' := 7) (c := 0) rfl ?_
        rw [g5]
        refine wpOpIn_step rfl (fun K' hK => ?_)
        simp only [Region.wanted, List.getElem_toArray, List.getElem_cons_succ, List.getElem_cons_zero]
        have HK := Lib.hid hK
        clear hK
        gi_wp2
        refine HK.out _ _ (wpTail_end ?_)
        clear HK
        gi_wp2
        go_roundw
        case rel =>
          refine ⟨k + 1, ⟨n5, .slice A5 l5 c5, m5, .slice D5 e5 g5'⟩, by omega, val_int (by omega), H1, Lib.hid ?_, H3, H4.out⟩
          rw [HT.out]; exact H2.out
        case measure => simp [intOf]; omega
    · obtain rfl : k = qs.length := by omega
      rw [List.take_length] at HSm
      obtain ⟨yn, ⟨yA, yl, yc⟩, ym, ⟨yB, yl2, yc2⟩, rfl⟩ := Qx.shape (isQc.slices HSm.out)
      obtain ⟨z0, z1, z2, z3⟩ := four1 (n3 := .bool yn) (s3 := .slice yA yl yc) (m3 := .bool ym) (t3 := .slice yB yl2 yc2) HBk.out
      obtain ⟨t0, t1, t2, t3⟩ := four1 (n3 := .bool false) (s3 := .slice none 0 0) (m3 := .bool false) (t3 := .slice none 0 0) HZ.out
      have tf := fun j => HZ.out.frozen j
      have hlt8 := HZ.out.lt
      gi_wp2
      refine bodyPost_ret (v := .agg #[.bool yn, .slice yA yl yc, .bool ym, .slice yB yl2 yc2]) ?_ rfl ?_
      · simp [results, Tryz.results46, go_sem, t0, t1, t2, t3]
      · exact ⟨yn, yA, yl, yc, ym, yB, yl2, yc2, rfl, st4_belowB (o := 0) (y := ⟨yn, .slice yA yl yc, ym, .slice yB yl2 yc2⟩) hbl (Nat.le_refl _), st4_el0 cq_stable (z := ⟨yn, .slice yA yl yc, ym, .slice yB yl2 yc2⟩) HZ.out Qx.zero_sl HSm.out⟩
end Go.Proofs.YtdkfdamihnieiaaGreat
end
section
/- right.Check. -/
open Go Go.RowKit Go.Shelf
namespace Go.Proofs.YtdkfdamihnieiaaGreat
open Go.Proofs
theorem rbus_c {w : World} {h : Nat} {n z : Int} (c0 : w.cell? ⟨h, 0, none⟩ = some (.int .i64 n)) : Calls Tryz.prog 233 #[.int .i64 z, .pointer (some ⟨h, 0, none⟩)] w fun e w' => e = .returned (.bool (isB n z)) ∧ w' = w := by
  unfold isB
  by_cases hz : z ≥ 0
  · go_enter Tryz.func233, Tryz.ntmps233
    go_wp2
    go_ret
    simp [hz]
  · go_enter Tryz.func233, Tryz.ntmps233
    go_wp2
    go_ret
    simp; omega
/-- A right that is let. -/
def rok (n : Int) (x : Rt) : Bool := isB n x.f && isB n x.t && decide (0 ≤ x.q) && decide (x.q ≤ 1000000)
def rchk (n : Int) (rs : List Rt) : Int := if 8 < rs.length then 5 else if rs.all (rok n) then 0 else 1
set_option maxRecDepth 100000 in
set_option maxHeartbeats 4000000 in
theorem rcheck_c {w : World} {v : Value} {rs : List Rt} (h : Vr w v rs) (n : Int) : Calls Tryz.prog 174 #[v, .int .i64 n] w fun e w' => (∃ z : Int, e = .returned (.tuple #[.int .i64 z, .int .i64 (rchk n rs)])) ∧ Below w.heap.size w w' := by
  obtain ⟨A, l, c, rfl⟩ := h.shape
  obtain rfl := h.len
  have hm := h.lim
  by_cases hl : 8 < rs.length
  · have he : rchk n rs = 5 := by unfold rchk; rw [if_pos hl]
    rw [he]
    have hl2 : (rs.length : Int) > 8 := by omega
    clear he
    go_enter Tryz.func174, Tryz.ntmps174
    go_wp2
    refine bodyPost_ret (v := .tuple #[.int .i64 0, .int .i64 5]) ?_ rfl ⟨⟨_, rfl⟩, bal (b0 _)⟩
    simp [results, Tryz.results174, go_sem]
  have he : rchk n rs = if rs.all (rok n) then 0 else 1 := by unfold rchk; rw [if_neg hl]
  obtain ⟨z, hz⟩ : ∃ z, z = rchk n rs := ⟨_, rfl⟩
  rw [← hz] at he ⊢
  have hq3 : decide (8 < (rs.length : Int)) = false := by simp; omega
  have HE := Lib.hid he
  clear he hz hl
  go_enter Tryz.func174, Tryz.ntmps174
  go_wp2
  go_loopw [4, 5, 15] (fun pv ev iv wr => ∃ k : Nat, k ≤ rs.length ∧ pv = .int .i64 0 ∧ ev = .int .i64 0 ∧ iv = .int .i64 (k : Int) ∧ Below (w.alloc (.cells #[.int .i64 n] 3)).heap.size (w.alloc (.cells #[.int .i64 n] 3)) wr ∧ Hid ((rs.take k).all (rok n) = true)) (fun _ _ iv _ => rs.length - (intOf iv).toNat)
  case atStart => exact ⟨0, by omega, rfl, rfl, rfl, b0 _, Lib.hid (by simp)⟩
  case round =>
    obtain ⟨k, hk, rfl, rfl, rfl, hbl, HA⟩ := hrel
    by_cases hlt : k < rs.length
    · obtain ⟨br, or, rfl, hc⟩ := (h.below (bthen (bal (b0 w)) hbl)).at (by omega)
      obtain ⟨d0, d1, d2⟩ := hc k hlt
      obtain ⟨x, hx⟩ : ∃ x, x = rs.getD k Rt.zero := ⟨_, rfl⟩
      rw [← hx] at d0 d1 d2
      have c0 : ∀ W', Below wr.heap.size wr W' → W'.cell? ⟨w.heap.size, 0, none⟩ = some (.int .i64 n) := fun W' hb => by
        have := Blk.new w [.int .i64 n] 3 rfl
        exact ((this.below hbl).below hb).cell 0
      have C := fun z => @rbus_c (wr.alloc (.cells #[.int .i64 x.f, .int .i64 x.t, .int .i64 x.q] 92)) w.heap.size n z (c0 _ (bal (b0 _)))
      have hok : rok n x = (isB n x.f && isB n x.t && decide (0 ≤ x.q) && decide (x.q ≤ 1000000)) := rfl
      obtain ⟨p1, hp1⟩ : ∃ p1, p1 = isB n x.f := ⟨_, rfl⟩
      obtain ⟨p2, hp2⟩ : ∃ p2, p2 = isB n x.t := ⟨_, rfl⟩
      have C1 := C x.f
      have C2 := C x.t
      rw [← hp1] at C1 hok
      rw [← hp2] at C2 hok
      have H1 := Lib.hid C1
      have H2 := Lib.hid C2
      have HX := Lib.hid hx
      have HBL := Lib.hid (bthen (bal (b0 w)) hbl)
      have HBB := Lib.hid hbl
      have bad : ∀ {P : Prop}, rok n x = false → (z = 1 → P) → P := fun hr hP => hP (by
        rw [HE.out, if_neg]
        intro hall
        have := List.all_eq_true.1 hall x (by rw [HX.out, List.getD_eq_getElem?_getD, List.getElem?_eq_getElem hlt]; exact List.getElem_mem hlt)
        rw [hr] at this; cases this)
      clear c0 C C1 C2 hx hc hp1 hp2 hbl
      by_cases hgood : rok n x = true
      · have hg := hgood
        rw [hok] at hg
        simp only [Bool.and_eq_true, decide_eq_true_eq] at hg
        obtain ⟨⟨⟨rfl, rfl⟩, hq0⟩, hq1⟩ := hg
        have HG := Lib.hid hgood
        have hq4 : decide (x.q < 0) = false := by simp; omega
        have hq5 : decide (1000000 < x.q) = false := by simp; omega
        clear hok hgood bad
        go_wp2_with (first
          | (go_at_call 233; (with_reducible refine Calls.mono H1.out ?_); rintro e w1 ⟨rfl, rfl⟩)
          | (go_at_call 233; (with_reducible refine Calls.mono H2.out ?_); rintro e w1 ⟨rfl, rfl⟩))
        refine ⟨⟨k + 1, by omega, rfl, rfl, val_int (by omega), bthen HBB.out (bal (b0 _)), Lib.hid ?_⟩, by simp [intOf]; omega⟩
        rw [List.take_succ_eq_append_getElem hlt, List.all_append, HA.out]
        simp only [List.all_cons, List.all_nil, Bool.true_and, Bool.and_true]
        rw [show rs[k] = x by rw [HX.out, List.getD_eq_getElem?_getD, List.getElem?_eq_getElem hlt]; rfl]
        exact HG.out
      · have hgf : rok n x = false := by simpa using hgood
        refine bad hgf (fun hz1 => ?_)
        subst hz1
        rw [hok] at hgf
        have HGF := Lib.hid hgf
        clear hgf hgood hok bad
        cases p1 with
        | false =>
          go_wp2_with (first
            | (go_at_call 233; (with_reducible refine Calls.mono H1.out ?_); rintro e w1 ⟨rfl, rfl⟩)
            | (go_at_call 233; (with_reducible refine Calls.mono H2.out ?_); rintro e w1 ⟨rfl, rfl⟩))
          refine bodyPost_ret (v := .tuple #[.int .i64 (k : Int), .int .i64 1]) ?_ rfl ⟨⟨_, rfl⟩, bthen HBL.out (bal (b0 _))⟩
          simp [results, Tryz.results174, go_sem]
        | true =>
          cases p2 with
          | false =>
            go_wp2_with (first
              | (go_at_call 233; (with_reducible refine Calls.mono H1.out ?_); rintro e w1 ⟨rfl, rfl⟩)
              | (go_at_call 233; (with_reducible refine Calls.mono H2.out ?_); rintro e w1 ⟨rfl, rfl⟩))
            refine bodyPost_ret (v := .tuple #[.int .i64 (k : Int), .int .i64 1]) ?_ rfl ⟨⟨_, rfl⟩, bthen HBL.out (bal (b0 _))⟩
            simp [results, Tryz.results174, go_sem]
          | true =>
            by_cases hq0 : x.q < 0
            · go_wp2_with (first
                | (go_at_call 233; (with_reducible refine Calls.mono H1.out ?_); rintro e w1 ⟨rfl, rfl⟩)
                | (go_at_call 233; (with_reducible refine Calls.mono H2.out ?_); rintro e w1 ⟨rfl, rfl⟩))
              refine bodyPost_ret (v := .tuple #[.int .i64 (k : Int), .int .i64 1]) ?_ rfl ⟨⟨_, rfl⟩, bthen HBL.out (bal (b0 _))⟩
              simp [results, Tryz.results174, go_sem]
            · have hq4 : decide (x.q < 0) = false := by simp; omega
              have hq5 : decide (1000000 < x.q) = true := by
                have := HGF.out
                simp at this
                simp; omega
              go_wp2_with (first
                | (go_at_call 233; (with_reducible refine Calls.mono H1.out ?_); rintro e w1 ⟨rfl, rfl⟩)
                | (go_at_call 233; (with_reducible refine Calls.mono H2.out ?_); rintro e w1 ⟨rfl, rfl⟩))
              refine bodyPost_ret (v := .tuple #[.int .i64 (k : Int), .int .i64 1]) ?_ rfl ⟨⟨_, rfl⟩, bthen HBL.out (bal (b0 _))⟩
              simp [results, Tryz.results174, go_sem]
    · obtain rfl : k = rs.length := by omega
      have hall := HA.out
      rw [List.take_length] at hall
      have hz := HE.out
      rw [if_pos hall] at hz
      have HZ := Lib.hid hz
      have HBL := Lib.hid hbl
      clear hz hall HA hbl
      go_wp2
      refine bodyPost_ret (v := .tuple #[.int .i64 0, .int .i64 0]) ?_ rfl ⟨⟨_, by rw [HZ.out]⟩, bthen (bal (b0 w)) HBL.out⟩
      simp [results, Tryz.results174, go_sem]
end Go.Proofs.YtdkfdamihnieiaaGreat
end
