/- right.Feasible. -/
import Derived.Test.YtdkfdamihnieiaaGreatG31
set_option linter.unusedSimpArgs false
set_option linter.unusedVariables false
section
open Go Go.RowKit Go.Shelf
namespace Go.Proofs.YtdkfdamihnieiaaGreat
open Go.Proofs
attribute [local go_sem] Oper.semAt_some wide_fn wide_depth
/-- Line i bears its flow. -/
def bears (ls : List Ln) (fs : List Rat) (i : Nat) : Bool := !decide (0 < qs (mx (fs.getD i 0) (-(fs.getD i 0)) - ((ls.getD i Ln.zero).c : Rat)))
def feasB (ls : List Ln) (fs : List Rat) : Bool := (List.range ls.length).all (bears ls fs)
def feasR (b : Int) (ls : List Ln) (out : List Int) (rs : List Rt) : Bool × Int :=
  if flowsE b ls out rs = 0 then (feasB ls (flowsL b.toNat ls out rs), 0) else if flowsE b ls out rs = 10 then (false, 0) else (false, flowsE b ls out rs)
theorem qB_mx {p q : Rat} {B : Nat} (h1 : qB p B) (h2 : qB q B) : qB (mx p q) B := by
  unfold mx
  split
  · assumption
  · assumption
set_option maxRecDepth 100000 in
set_option maxHeartbeats 4000000 in
theorem feasible_c {w : World} {b : Int} {v vo vr : Value} {ls : List Ln} {out : List Int} {rs : List Rt} (h : Vl w v ls) (ho : Vi w vo out) (hr : Vr w vr rs) : Calls Tryz.prog 44 #[.agg #[.int .i64 b, v], vo, vr] w (RetO w (.tuple #[.bool (feasR b ls out rs).1, .int .i64 (feasR b ls out rs).2])) := by
  have HFL := Lib.hid (fun W (hb : Below w.heap.size w W) => flows_c (n0 := 0) (b := b) (h.below hb) (ho.below hb) (hr.below hb) (Nat.zero_le _))
  have HL := Lib.hid h
  obtain ⟨A1, l1, c1, rfl⟩ := h.shape
  obtain ⟨A2, l2, c2, rfl⟩ := ho.shape
  obtain ⟨A3, l3, c3, rfl⟩ := hr.shape
  have HBX := Lib.hid (Blk.new w [.int .i64 b, .slice A1 l1 c1] 24 rfl)
  have HF0 := Lib.hid (HFL.out _ (bal (b0 w) (o := .cells #[.int .i64 b, .slice A1 l1 c1] 24)))
  have hl1 := h.len
  subst hl1
  have HFR := Lib.hid (show feasR b ls out rs = if flowsE b ls out rs = 0 then (feasB ls (flowsL b.toNat ls out rs), 0) else if flowsE b ls out rs = 10 then (false, 0) else (false, flowsE b ls out rs) from rfl)
  obtain ⟨⟨z1, z2⟩, hz⟩ : ∃ z, z = feasR b ls out rs := ⟨_, rfl⟩
  rw [← hz] at HFR ⊢
  have HEZ := Lib.hid (show flowsE b ls out rs = 0 → wrongS b ls out rs = 0 from fun h => by
    unfold flowsE at h
    by_cases h1 : wrongS b ls out rs = 0
    · exact h1
    · rw [if_pos h1] at h; exact absurd h h1)
  have HTN := Lib.hid (show ∀ n : Nat, (n : Int).toNat = n from fun n => Int.toNat_natCast n)
  obtain ⟨e0, he0⟩ : ∃ e0, e0 = flowsE b ls out rs := ⟨_, rfl⟩
  rw [← he0] at HF0 HFR HEZ
  clear h ho hr hz he0 HFL
  simp only
  by_cases h0 : e0 = 0
  · subst h0
    have hw := HEZ.out rfl
    obtain ⟨hou, hrc⟩ := wrong_ok hw
    obtain ⟨hr8, hrin⟩ := rchk_ok hrc
    obtain ⟨n, rfl⟩ : ∃ n : Nat, b = (n : Int) := ⟨b.toNat, by have := chk_ok (outs_ok hou).1; omega⟩
    have hzz : (z1, z2) = (feasB ls (flowsL n ls out rs), (0 : Int)) := by rw [HFR.out, if_pos rfl, HTN.out]
    injection hzz with hz1 hz2
    subst hz2
    rw [HTN.out] at HF0
    have HFB := Lib.hid (flowsL_bnd hou (fun x hx => by have := hrin x hx; omega) (by omega))
    have hfl := flowsL_length n ls out rs
    obtain ⟨hn6, hn1, hll, hlin, _, _⟩ := inv_bnd hou
    have HLIN := Lib.hid (fun l (hl : l ∈ ls) => (lnok_of (chk_ok (outs_ok hou).1).2.2.2 hl).2.2.2.2.2.2.2)
    obtain ⟨fs, hfs⟩ : ∃ fs, fs = flowsL n ls out rs := ⟨_, rfl⟩
    rw [← hfs] at HF0 HFB hfl hz1
    have HZ1 := Lib.hid hz1
    have HFSL := Lib.hid hfl
    clear hou hrc hrin hw HFR HEZ hfs hlin hz1 hfl
    go_enter Tryz.func44, Tryz.ntmps44
    go_wp2_with (go_at_call 38; (with_reducible refine Calls.mono HF0.out ?_); rintro e w1 ⟨hb1, _, hy1⟩; obtain ⟨AF, lF, cF, rfl, hv1⟩ := hy1 rfl; have HB1 := Lib.hid (bthen (bal (b0 w)) hb1); have Q1 := Lib.hid (HBX.out.below hb1); have hlF := hv1.len_eq; rw [HFSL.out] at hlF; obtain rfl := hlF; have HV1 := Lib.hid hv1; clear hb1 hy1 hv1)
    go_loopg [27] ls.length (fun gh iv wr => ∃ k : Nat, gh = ls.length - k ∧ k ≤ ls.length ∧ iv = .int .i64 (k : Int) ∧ Hid (Below w1.heap.size w1 wr) ∧ Hid ((List.range k).all (bears ls fs) = true))
    case atStart => exact ⟨0, rfl, by omega, rfl, Lib.hid (b0 _), Lib.hid (by simp)⟩
    case round =>
      obtain ⟨k, rfl, hk, rfl, HBL, HA⟩ := hrel
      obtain ⟨wo, rfl⟩ : ∃ wo : World, wo = wr := ⟨_, rfl⟩
      by_cases hlt : k < ls.length
      · have hvq := HV1.out.below cq_stable HBL.out
        obtain ⟨bf, of, nf, sf, mf, tf, hA, hef, x0, x1, x2, x3⟩ := hvq.elem (k := k) hlt
        subst hA
        obtain ⟨⟨As, lS, cS, e1⟩, At, lT, cT, e2⟩ := isQc.slices hef
        subst e1 e2
        obtain ⟨bl, ol, hA1, hcl⟩ := (HL.out.below (bthen HB1.out HBL.out)).at (by omega)
        subst hA1
        obtain ⟨d0, d1, d2, d3⟩ := hcl k hlt
        obtain ⟨hc0, hc1⟩ := HLIN.out (ls.getD k Ln.zero) (by rw [List.getD_eq_getElem?_getD, List.getElem?_eq_getElem hlt]; exact List.getElem_mem hlt)
        obtain ⟨cap, hcap⟩ : ∃ cap, cap = (ls.getD k Ln.zero).c := ⟨_, rfl⟩
        rw [← hcap] at d3 hc0 hc1
        obtain ⟨f, hf⟩ : ∃ f, f = fs.getD k 0 := ⟨_, rfl⟩
        have hfb := HFB.out k
        rw [← hf] at hef hfb
        have hbf : bf < wo.heap.size := World.block_lt_of_cell? wo _ x0
        have hbl : bl < wo.heap.size := World.block_lt_of_cell? wo _ d3
        have HBE := Lib.hid (show bears ls fs k = !decide (0 < qs (mx f (-f) - (cap : Rat))) by rw [hf, hcap]; rfl)
        have HBF := Lib.hid (Blk.new4 (W := wo) (n := wo.heap.size) (T := 44) (x := .bool nf) (y := .slice As lS cS) (z := .bool mf) (u := .slice At lT cT) rfl)
        have HEF := Lib.hid (isQc.q hef hfb)
        have HFBB := Lib.hid (show qB f 50000000 ∧ qB (mx f (-f)) 50000000 from ⟨hfb, qB_mx hfb (qB_neg hfb)⟩)
        have Q2 := Lib.hid (Q1.out.below HBL.out)
        have HCB := Lib.hid (qB_int (z := cap) (by omega) (by omega))
        have HD3 := Lib.hid d3
        clear hvq hef hcl hcap hf hfb d0 d1 d2 d3
        go_wp2
        refine (wpIn_wide (n := 10)).1 ?_
        refine wpIn_region_Y (by kernel_rfl) (by kernel_rfl) 11 0 rfl (by kernel_rfl) (fun u => { tmps := List.toArray ((Value.agg #[Value.int IntKind.i64 ↑n, Value.slice (some { block := bl, off := ol }) ls.length c1]) :: (Value.slice A2 l2 c2) :: (Value.slice A3 l3 c3) :: (Value.pointer (some { block := w.heap.size, off := 0 })) :: undef :: undef :: u6 :: u7 :: (Value.slice (some { block := bf, off := of }) ls.length cF) :: (Value.int IntKind.i64 0) :: (Value.int IntKind.i64 ↑k) :: (Value.pointer (some { block := wo.heap.size, off := 0 })) :: (Value.tuple #[Value.slice (some { block := bf, off := of }) ls.length cF, Value.int IntKind.i64 0]) :: (Value.agg #[Value.int IntKind.i64 ↑n, Value.slice (some { block := bl, off := ol }) ls.length c1]) :: (Value.slice A2 l2 c2) :: (Value.slice A3 l3 c3) :: (Value.tuple #[Value.slice (some { block := bf, off := of }) ls.length cF, Value.int IntKind.i64 0]) :: (Value.slice (some { block := bf, off := of }) ls.length cF) :: (Value.int IntKind.i64 0) :: (Value.int IntKind.i64 0) :: undef :: (Value.bool true) :: (Value.bool true) :: undef :: undef :: (Value.slice (some { block := bf, off := of }) ls.length cF) :: (Value.int IntKind.i64 ↑ls.length) :: (Value.int IntKind.i64 ↑k) :: (Value.bool true) :: (Value.int IntKind.i64 ↑k) :: (Value.pointer (some { block := bf, off := of + k * 4 })) :: (Value.agg #[Value.bool nf, Value.slice As lS cS, Value.bool mf, Value.slice At lT cT]) :: (u 0) :: (u 1) :: (u 2) :: (u 3) :: (u 4) :: (u 5) :: (u 6) :: (u 7) :: (u 8) :: (u 9) :: (u 10) :: u43 :: []), defers := [] }) (fun k => #[u32, u33, u34, u35, u36, u37, u38, u39, u40, u41, u42].getD k undef) rfl (fun W1 W2 => Below W1.heap.size W1 W2) (fun _ => Below.refl _ _) (fun h1 h2 => bthen h1 h2)
          (fun j9 v W1 => match j9 with
            | 0 => v = Value.agg #[.bool nf, .slice As lS cS, .bool mf, .slice At lT cT]
            | 1 => ∃ p : Qx, v = p.v ∧ isQc (fun _ => True) W1 p.v (mx f (-f))
            | 2 => v = Value.pointer (some ⟨w.heap.size, 1, none⟩)
            | 3 => v = Value.slice (some ⟨bl, ol, none⟩) ls.length c1
            | 4 => v = Value.int .i64 (k : Int)
            | 5 => v = Value.pointer (some ⟨bl, ol + k * 4, none⟩)
            | 6 => v = Value.pointer (some ⟨bl, ol + k * 4 + 3, none⟩)
            | 7 => v = Value.int .i64 cap
            | 8 => ∃ p : Qx, v = p.v ∧ isQc (fun _ => True) W1 p.v ((cap : Rat))
            | 9 => v = Value.int .i64 (qs (mx f (-f) - (cap : Rat)))
            | 10 => v = Value.bool (decide (0 < qs (mx f (-f) - (cap : Rat))))
            | _ => True) ?hY ?step ?fin
        case hY =>
          intro k v W1 W2 h hb
          match k, h with
          | 0, h => exact h
          | 1, ⟨p, e, h⟩ => exact ⟨p, e, isQc.below h hb⟩
          | 2, h => exact h
          | 3, h => exact h
          | 4, h => exact h
          | 5, h => exact h
          | 6, h => exact h
          | 7, h => exact h
          | 8, ⟨p, e, h⟩ => exact ⟨p, e, isQc.below h hb⟩
          | 9, h => exact h
          | 10, h => exact h
          | k + 11, h => trivial
        case step =>
          intro u W' j o hj ho hR hpre
          have hbw : Below (wo.alloc (.cells #[.bool nf, .slice As lS cS, .bool mf, .slice At lT cT] 44)).heap.size (wo.alloc (.cells #[.bool nf, .slice As lS cS, .bool mf, .slice At lT cT] 44)) W' := bthen (bdr (b0 (wo.alloc (.cells #[.bool nf, .slice As lS cS, .bool mf, .slice At lT cT] 44)))) hR
          have hbo := bthen (bal (b0 wo)) hbw
          obtain ⟨y0, y1, y2, y3⟩ := four1 (HBF.out.below hbw)
          have q1 := (Q2.out.below hbo).c2.2
          have q2 := (hbo.cell (p := ⟨bl, ol + k * 4 + 3, none⟩) hbl).trans HD3.out
          obtain rfl | rfl | rfl | rfl | rfl | rfl | rfl | rfl | rfl | rfl | rfl : j = 0 ∨ j = 1 ∨ j = 2 ∨ j = 3 ∨ j = 4 ∨ j = 5 ∨ j = 6 ∨ j = 7 ∨ j = 8 ∨ j = 9 ∨ j = 10 := by omega
          · simp at ho
            subst ho
            simp [Region.binds] at hpre
            refine wpOpIn_step rfl (fun K' hK => ?_)
            simp only [Region.wanted]
            have HK := Lib.hid hK
            clear hK
            gi_wp2
            exact HK.out _ _ ⟨Value.agg #[.bool nf, .slice As lS cS, .bool mf, .slice At lT cT], by simp [upd, undef, *], Below.refl _ _, rfl⟩
          · simp at ho
            subst ho
            simp [Region.binds] at hpre
            refine wpOpIn_step rfl (fun K' hK => ?_)
            simp only [Region.wanted]
            have HK := Lib.hid hK
            clear hK
            gi_wp2_with (gi_at_call 32; (with_reducible refine CallsIn.mono (callsIn_wide.2 (abs_q (HEF.out.below hbo) (by omega) (by omega))) ?_); rintro e w1 ⟨n7, A7, l7, c7, m7, D7, e7, g7, rfl, hb1, hr1⟩)
            refine HK.out _ _ ⟨(.agg #[.bool n7, .slice A7 l7 c7, .bool m7, .slice D7 e7 g7]), by simp [upd, undef, Qx.v, Qx.zero, *], hb1, ⟨⟨n7, .slice A7 l7 c7, m7, .slice D7 e7 g7⟩, rfl, hr1.any⟩⟩
          · simp at ho
            subst ho
            simp [Region.binds] at hpre
            refine wpOpIn_step rfl (fun K' hK => ?_)
            simp only [Region.wanted]
            have HK := Lib.hid hK
            clear hK
            gi_wp2
            exact HK.out _ _ ⟨Value.pointer (some ⟨w.heap.size, 1, none⟩), by simp [upd, undef, *], Below.refl _ _, rfl⟩
          · simp at ho
            subst ho
            simp [Region.binds] at hpre
            refine wpOpIn_step rfl (fun K' hK => ?_)
            simp only [Region.wanted]
            have HK := Lib.hid hK
            clear hK
            gi_wp2
            exact HK.out _ _ ⟨Value.slice (some ⟨bl, ol, none⟩) ls.length c1, by simp [upd, undef, *], Below.refl _ _, rfl⟩
          · simp at ho
            subst ho
            simp [Region.binds] at hpre
            refine wpOpIn_step rfl (fun K' hK => ?_)
            simp only [Region.wanted]
            have HK := Lib.hid hK
            clear hK
            gi_wp2
            exact HK.out _ _ ⟨Value.int .i64 (k : Int), by simp [upd, undef, *], Below.refl _ _, rfl⟩
          · simp at ho
            subst ho
            simp [Region.binds] at hpre
            refine wpOpIn_step rfl (fun K' hK => ?_)
            simp only [Region.wanted]
            have HK := Lib.hid hK
            clear hK
            gi_wp2
            exact HK.out _ _ ⟨Value.pointer (some ⟨bl, ol + k * 4, none⟩), by simp [upd, undef, *], Below.refl _ _, rfl⟩
          · simp at ho
            subst ho
            simp [Region.binds] at hpre
            refine wpOpIn_step rfl (fun K' hK => ?_)
            simp only [Region.wanted]
            have HK := Lib.hid hK
            clear hK
            gi_wp2
            exact HK.out _ _ ⟨Value.pointer (some ⟨bl, ol + k * 4 + 3, none⟩), by simp [upd, undef, *], Below.refl _ _, rfl⟩
          · simp at ho
            subst ho
            simp [Region.binds] at hpre
            refine wpOpIn_step rfl (fun K' hK => ?_)
            simp only [Region.wanted]
            have HK := Lib.hid hK
            clear hK
            gi_wp2
            exact HK.out _ _ ⟨Value.int .i64 cap, by simp [upd, undef, *], Below.refl _ _, rfl⟩
          · simp at ho
            subst ho
            simp [Region.binds] at hpre
            have F := Lib.hid (fun W => @fromInt_q W cap (by omega) (by omega))
            refine wpOpIn_step rfl (fun K' hK => ?_)
            simp only [Region.wanted]
            have HK := Lib.hid hK
            clear hK
            gi_wp2_with (gi_at_call 49; (with_reducible refine CallsIn.mono (callsIn_wide.2 (F.out _)) ?_); rintro e w1 ⟨n7, A7, l7, c7, m7, D7, e7, g7, rfl, hb1, hr1⟩)
            refine HK.out _ _ ⟨(.agg #[.bool n7, .slice A7 l7 c7, .bool m7, .slice D7 e7 g7]), by simp [upd, undef, Qx.v, Qx.zero, *], hb1, ⟨⟨n7, .slice A7 l7 c7, m7, .slice D7 e7 g7⟩, rfl, hr1.any⟩⟩
          · simp at ho
            subst ho
            simp [Region.binds] at hpre
            obtain ⟨⟨p, g1, hp⟩, ⟨p', g8, hp'⟩⟩ := hpre
            obtain ⟨n5, ⟨A5, l5, c5⟩, m5, ⟨D5, e5, g5⟩, rfl⟩ := Qx.shape (isQc.slices hp)
            obtain ⟨n6, ⟨A6, l6, c6⟩, m6, ⟨D6, e6, g6⟩, rfl⟩ := Qx.shape (isQc.slices hp')
            simp only [Qx.v] at g1 g8 hp hp'
            have HCM := Lib.hid (cmp_q (isQc.q hp HFBB.out.2) (isQc.q hp' HCB.out) (by omega) (by omega) (by omega) (by omega))
            refine wpOpIn_step rfl (fun K' hK => ?_)
            simp only [Region.wanted]
            have HK := Lib.hid hK
            clear hK
            gi_wp2_with (gi_at_call 31; (with_reducible refine CallsIn.mono (callsIn_wide.2 HCM.out) ?_); rintro e w1 ⟨rfl, hb1⟩)
            refine HK.out _ _ ⟨Value.int .i64 (qs (mx f (-f) - (cap : Rat))), by simp [upd, undef, Qx.v, Qx.zero, *], hb1, rfl⟩
          · simp at ho
            subst ho
            simp [Region.binds] at hpre
            refine wpOpIn_step rfl (fun K' hK => ?_)
            simp only [Region.wanted]
            have HK := Lib.hid hK
            clear hK
            gi_wp2
            exact HK.out _ _ ⟨Value.bool (decide (0 < qs (mx f (-f) - (cap : Rat)))), by simp [upd, undef, *], Below.refl _ _, rfl⟩
        case fin =>
          intro u W' hR hY
          have hbw : Below (wo.alloc (.cells #[.bool nf, .slice As lS cS, .bool mf, .slice At lT cT] 44)).heap.size (wo.alloc (.cells #[.bool nf, .slice As lS cS, .bool mf, .slice At lT cT] 44)) W' := bthen (bdr (b0 (wo.alloc (.cells #[.bool nf, .slice As lS cS, .bool mf, .slice At lT cT] 44)))) hR
          have g10 : u 10 = Value.bool (decide (0 < qs (mx f (-f) - (cap : Rat)))) := hY 10 (by omega)
          have HBW := Lib.hid (bthen HBL.out (bthen (bal (b0 wo)) hbw))
          clear hY hR hbw
          refine wpTail_end ?_
          rw [g10]
          obtain ⟨dd, hdd⟩ : ∃ dd, dd = decide (0 < qs (mx f (-f) - (cap : Rat))) := ⟨_, rfl⟩
          rw [← hdd] at HBE
          rw [← hdd]
          clear hdd g10
          cases dd with
          | false =>
            go_wp2
            go_roundg (ls.length - (k + 1))
            case rel => exact ⟨k + 1, rfl, by omega, val_int (by omega), HBW, Lib.hid (by rw [List.range_succ, List.all_append, HA.out]; simp [HBE.out])⟩
            case measure => omega
          | true =>
            have hzf : z1 = false := by
              rw [HZ1.out, Bool.eq_false_iff]
              intro hall
              unfold feasB at hall
              have := List.all_eq_true.1 hall k (List.mem_range.2 hlt)
              rw [HBE.out] at this
              cases this
            subst hzf
            go_wp2
            refine bodyPost_ret (v := .tuple #[.bool false, .int .i64 0]) ?_ rfl ⟨rfl, bthen HB1.out HBW.out⟩
            simp [results, Tryz.results44, go_sem]
      · obtain rfl : k = ls.length := by omega
        have hall : z1 = true := by rw [HZ1.out]; exact HA.out
        subst hall
        go_wp2
        refine bodyPost_ret (v := .tuple #[.bool true, .int .i64 0]) ?_ rfl ⟨rfl, bthen HB1.out HBL.out⟩
        simp [results, Tryz.results44, go_sem]
  · by_cases h10 : e0 = 10
    · subst h10
      have hzz : (z1, z2) = (false, (0 : Int)) := by rw [HFR.out, if_neg (by decide), if_pos rfl]
      injection hzz with hz1 hz2
      subst hz1 hz2
      clear HFR HEZ
      go_enter Tryz.func44, Tryz.ntmps44
      go_wp2_with (go_at_call 38; (with_reducible refine Calls.mono HF0.out ?_); rintro e w1 ⟨hb1, hy1, _⟩; obtain rfl := hy1 (by decide); have HB1 := Lib.hid (bthen (bal (b0 w)) hb1); clear hb1 hy1)
      refine bodyPost_ret (v := .tuple #[.bool false, .int .i64 0]) ?_ rfl ⟨rfl, HB1.out⟩
      simp [results, Tryz.results44, go_sem]
    · have hzz : (z1, z2) = (false, e0) := by rw [HFR.out, if_neg h0, if_neg h10]
      injection hzz with hz1 hz2
      subst hz1 hz2
      have h0' : (z2 == 0) = false := by simpa using h0
      have h10' : (z2 == 10) = false := by simpa using h10
      have HY0 := Lib.hid h0
      clear HFR HEZ h0 h10
      go_enter Tryz.func44, Tryz.ntmps44
      go_wp2_with (go_at_call 38; (with_reducible refine Calls.mono HF0.out ?_); rintro e w1 ⟨hb1, hy1, _⟩; obtain rfl := hy1 HY0.out; have HB1 := Lib.hid (bthen (bal (b0 w)) hb1); clear hb1 hy1)
      refine bodyPost_ret (v := .tuple #[.bool false, .int .i64 z2]) ?_ rfl ⟨rfl, HB1.out⟩
      simp [results, Tryz.results44, go_sem]
end Go.Proofs.YtdkfdamihnieiaaGreat
end
section
/- pylonlaw38: circle, row; the chapter's examples, evaluated. -/
open Go Go.RowKit Go.Shelf
namespace Go.Proofs.YtdkfdamihnieiaaGreat
open Go.Proofs
attribute [local go_sem] Oper.semAt_some wide_fn wide_depth
def cirL : List Ln := [⟨0, 1, 1, 10⟩, ⟨1, 2, 1, 10⟩, ⟨0, 2, 1, 10⟩]
def rt1 : List Rt := [⟨0, 2, 12⟩]
def rt2 : List Rt := [⟨0, 2, 18⟩]
def rt3 : List Rt := [⟨2, 0, 12⟩]
theorem ev1 : flowsE 3 cirL [] rt1 = 0 := by decide +kernel
theorem ev2 : flowsL 3 cirL [] rt1 = [4, 4, 8] := by decide +kernel
theorem ev3 : feasR 3 cirL [] rt1 = (true, 0) := by decide +kernel
theorem ev4 : feasR 3 cirL [] rt2 = (false, 0) := by decide +kernel
theorem ev5 : flowsE 3 cirL [0, 1, 2] rt1 = 10 := by decide +kernel
theorem ev6 : flowsL 3 cirL [] rt2 = [6, 6, 12] := by decide +kernel
theorem ev7 : flowsE 3 cirL [] rt2 = 0 := by decide +kernel
theorem ev8 : feasR 3 cirL [0, 1, 2] rt1 = (false, 0) := by decide +kernel
theorem ev9 : payL [20, 25, 30] rt1 = [120] := by decide +kernel
theorem ev10 : payL [20, 25, 30] rt3 = [-120] := by decide +kernel
/-- Cells just laid, read as a slice. -/
theorem Sl.new (w : World) (cs : List Value) (T : TypeId) (n : Nat) (hn : n ≤ 1000000) {W : World} (hb : Below (w.heap.size + 1) (w.alloc (.cells cs.toArray T)) W) : Sl W (.slice (some ⟨w.heap.size, 0, none⟩) n n) n cs :=
  ⟨_, n, rfl, Nat.le_refl _, by unfold maxLen; omega, fun _ => ⟨w.heap.size, 0, rfl, fun j hj => by
    have h1 : (w.alloc (.cells cs.toArray T)).cell? ⟨w.heap.size, j, none⟩ = cs[j]? := by rw [World.cell?_alloc_new]; simp
    rw [Nat.zero_add, ← h1]
    exact hb.cell (p := ⟨w.heap.size, j, none⟩) (by simp)⟩⟩
theorem circle_c (w : World) : Calls Tryz.prog 97 #[] w fun e w' => ∃ A c, e = .returned (.agg #[.int .i64 3, .slice A 3 c]) ∧ Below w.heap.size w w' ∧ Vl w' (.slice A 3 c) cirL := by
  go_enter Tryz.func97, Tryz.ntmps97
  go_wp2
  refine bodyPost_ret (v := .agg #[.int .i64 3, .slice (some ⟨w.heap.size + 1, 0, none⟩) 3 3]) ?_ rfl ⟨_, 3, rfl, ?_, ?_⟩
  · simp [results, Tryz.results97, go_sem]
  · exact bal (bal (b0 w))
  · have h := Sl.new (w.alloc (Obj.cells #[Value.int .i64 3, .slice (some ⟨w.heap.size + 1, 0, none⟩) 3 3] 24)) (lcs cirL) 68 3 (by omega) (Below.refl _ _)
    rw [World.size_alloc] at h
    exact h
def rowS (qs : List Rat) (xs : List Int) : Bool := decide (qs.length = xs.length) && decide (cmpq qs (toQ xs) = 0)
set_option maxHeartbeats 1000000 in
theorem row_c {n0 B : Nat} {w : World} {va vb : Value} {qs : List Rat} {xs : List Int} (ha : Vq n0 (rq B) w va qs) (hb : Vi w vb xs) (hx : ∀ z ∈ xs, -9223372036854775808 ≤ z ∧ z ≤ 9223372036854775807) (hl : xs.length ≤ 1000000000) (hB2 : 2 ≤ B) (hB : B ≤ 400000000) : Calls Tryz.prog 99 #[va, vb] w (RetO w (.bool (rowS qs xs))) := by
  have HF := Lib.hid (fromInts_c (n0 := n0) hb hx hl)
  have HA := Lib.hid ha
  obtain ⟨A1, l1, c1, rfl⟩ := ha.shape
  obtain ⟨A2, l2, c2, rfl⟩ := hb.shape
  have e1 := ha.len_eq
  have e2 := hb.len
  have HTB := Lib.hid (show ∀ q ∈ toQ xs, qB q B from fun q hq => by
    unfold toQ at hq
    obtain ⟨z, hz, rfl⟩ := List.mem_map.1 hq
    exact (qB_int (hx z hz).1 (hx z hz).2).mono hB2)
  have HE := Lib.hid (fun W v (h1 : Below w.heap.size w W) (h2 : Vq n0 cq W v (toQ xs)) => equal_c (HA.out.below (rq_stable B) h1) (h2.imp (fun v q hq h => cq_rq h (HTB.out q hq))) (by omega) hB)
  have HS := Lib.hid (show rowS qs xs = (decide (qs.length = xs.length) && decide (cmpq qs (toQ xs) = 0)) from rfl)
  obtain ⟨z, hz⟩ : ∃ z, z = rowS qs xs := ⟨_, rfl⟩
  obtain ⟨y, hy⟩ : ∃ y, y = decide (cmpq qs (toQ xs) = 0) := ⟨_, rfl⟩
  rw [← hz, ← hy, ← e1, ← e2] at HS
  rw [← hy] at HE
  rw [← hz]
  clear ha hb hx hz hy e1 e2
  by_cases hll : l1 = l2
  · subst hll
    have hzy : z = y := by rw [HS.out]; simp
    subst hzy
    go_enter Tryz.func99, Tryz.ntmps99
    go_wp2_with (first
      | (go_at_call 98; (with_reducible refine Calls.mono HF.out ?_); rintro e w1 ⟨A3, l3, c3, rfl, hb1, hv1, _⟩; have HB1 := Lib.hid hb1; have HE1 := Lib.hid (HE.out w1 _ hb1 hv1); clear hb1 hv1)
      | (go_at_call 34; (with_reducible refine Calls.mono HE1.out ?_); rintro e w2 ⟨rfl, hb2⟩; have HB2 := Lib.hid (bthen HB1.out hb2); clear hb2))
    go_ret
    exact ⟨rfl, HB2.out⟩
  · have hzf : z = false := by rw [HS.out]; simp [hll]
    subst hzf
    go_enter Tryz.func99, Tryz.ntmps99
    go_wp2
    go_ret
    exact ⟨rfl, b0 _⟩
end Go.Proofs.YtdkfdamihnieiaaGreat
end
section
/- pylonlaw38.awake. -/
open Go Go.RowKit Go.Shelf
namespace Go.Proofs.YtdkfdamihnieiaaGreat
open Go.Proofs
attribute [local go_sem] Oper.semAt_some wide_fn wide_depth
theorem toQ_rq {n0 : Nat} {w : World} {v : Value} {xs : List Int} (h : Vq n0 cq w v (toQ xs)) (hx : ∀ z ∈ xs, -9223372036854775808 ≤ z ∧ z ≤ 9223372036854775807) : Vq n0 (rq 2) w v (toQ xs) := h.imp (fun v q hq h => cq_rq h (by
  unfold toQ at hq
  obtain ⟨z, hz, rfl⟩ := List.mem_map.1 hq
  exact qB_int (hx z hz).1 (hx z hz).2))
theorem fl_c {w : World} {vl vr : Value} {rs : List Rt} {xs : List Int} (h : Vl w vl cirL) (hr : Vr w vr rs) (e1 : flowsE 3 cirL [] rs = 0) (e2 : flowsL 3 cirL [] rs = toQ xs) (hl : xs.length = 3) (hx : ∀ z ∈ xs, -9223372036854775808 ≤ z ∧ z ≤ 9223372036854775807) : Calls Tryz.prog 38 #[.agg #[.int .i64 3, vl], .slice none 0 0, vr] w fun e w' =>
    ∃ A c, e = .returned (.tuple #[.slice A 3 c, .int .i64 0]) ∧ Below w.heap.size w w' ∧ Vq 0 (rq 2) w' (.slice A 3 c) (toQ xs) := by
  refine (flows_c (n0 := 0) (b := 3) h (Vi.nil (by unfold maxLen; omega)) hr (Nat.zero_le _)).mono ?_
  rintro e w' ⟨hb, _, hy⟩
  obtain ⟨A, l, c, rfl, hv⟩ := hy e1
  rw [show (3 : Int).toNat = 3 from rfl, e2] at hv
  have hl3 := hv.len_eq
  rw [show (toQ xs).length = 3 by unfold toQ; rw [List.length_map]; exact hl] at hl3
  subst hl3
  exact ⟨A, c, rfl, hb, toQ_rq hv hx⟩
theorem fe_c {w : World} {vl vo vr : Value} {rs : List Rt} {out : List Int} {b : Bool} (h : Vl w vl cirL) (ho : Vi w vo out) (hr : Vr w vr rs) (e1 : feasR 3 cirL out rs = (b, 0)) : Calls Tryz.prog 44 #[.agg #[.int .i64 3, vl], vo, vr] w (RetO w (.tuple #[.bool b, .int .i64 0])) := by
  have := feasible_c (b := 3) h ho hr
  rw [e1] at this
  exact this
theorem fx_c {w : World} {vl vo vr : Value} (h : Vl w vl cirL) (ho : Vi w vo [0, 1, 2]) (hr : Vr w vr rt1) : Calls Tryz.prog 38 #[.agg #[.int .i64 3, vl], vo, vr] w (RetO w (.tuple #[.slice none 0 0, .int .i64 10])) := by
  refine (flows_c (n0 := 0) (b := 3) h ho hr (Nat.zero_le _)).mono ?_
  rintro e w' ⟨hb, hn, _⟩
  have := hn (by rw [ev5]; decide)
  rw [ev5] at this
  exact ⟨this, hb⟩
theorem py_c {w : World} {vr vp : Value} {rs : List Rt} {z : Int} (hr : Vr w vr rs) (hp : Vq 0 cq w vp (toQ [20, 25, 30])) (h1 : rs.all (inr 3) = true) (h2 : payL (toQ [20, 25, 30]) rs = toQ [z]) (hz : -9223372036854775808 ≤ z ∧ z ≤ 9223372036854775807) (hq : ∀ x ∈ rs, -9223372036854775808 ≤ x.q ∧ x.q ≤ 9223372036854775807) (hl : rs.length ≤ 10) : Calls Tryz.prog 43 #[vr, vp] w fun e w' =>
    ∃ A c, e = .returned (.tuple #[.slice A 1 c, .int .i64 0]) ∧ Below w.heap.size w w' ∧ Vq 0 (rq 2) w' (.slice A 1 c) (toQ [z]) := by
  refine (pays_c hr (toQ_rq hp (by decide)) (by omega) (by omega) hq (by omega)).mono ?_
  rintro e w' ⟨hb, hy, _⟩
  obtain ⟨A, l, c, rfl, hv⟩ := hy h1
  rw [h2] at hv
  have hl3 := hv.len_eq
  rw [show (toQ [z]).length = 1 from rfl] at hl3
  subst hl3
  exact ⟨A, c, rfl, hb, toQ_rq hv (fun y hy => by simp at hy; subst hy; exact hz)⟩
theorem fi_c {w : World} {v : Value} (h : Vi w v [20, 25, 30]) : Calls Tryz.prog 98 #[v] w fun e w' => ∃ A l c, e = .returned (.slice A l c) ∧ Below w.heap.size w w' ∧ Vq 0 cq w' (.slice A l c) (toQ [20, 25, 30]) :=
  (fromInts_c (n0 := 0) h (by decide) (by decide)).mono (fun e w' ⟨A, l, c, e1, h1, h2, _⟩ => ⟨A, l, c, e1, h1, h2⟩)
theorem rw_c {w : World} {va vb : Value} {xs : List Int} (ha : Vq 0 (rq 2) w va (toQ xs)) (hb : Vi w vb xs) (hs : rowS (toQ xs) xs = true) (hx : ∀ z ∈ xs, -9223372036854775808 ≤ z ∧ z ≤ 9223372036854775807) (hl : xs.length ≤ 10) : Calls Tryz.prog 99 #[va, vb] w (RetO w (.bool true)) := by
  have := row_c ha hb hx (by omega) (by omega) (by omega)
  rw [hs] at this
  exact this
theorem ew1 : flowsL 3 cirL [] rt1 = toQ [4, 4, 8] := by decide +kernel
theorem ew2 : flowsL 3 cirL [] rt2 = toQ [6, 6, 12] := by decide +kernel
theorem ew3 : payL (toQ [20, 25, 30]) rt1 = toQ [120] := by decide +kernel
theorem ew4 : payL (toQ [20, 25, 30]) rt3 = toQ [-120] := by decide +kernel
theorem er1 : rowS (toQ [4, 4, 8]) [4, 4, 8] = true := by decide +kernel
theorem er2 : rowS (toQ [6, 6, 12]) [6, 6, 12] = true := by decide +kernel
theorem er3 : rowS (toQ [120]) [120] = true := by decide +kernel
theorem er4 : rowS (toQ [-120]) [-120] = true := by decide +kernel
theorem vi_nil0 (w : World) : Vi w (.slice none 0 0) [] := Vi.nil (by unfold maxLen; omega)
theorem vi_new (w : World) (xs : List Int) (T : TypeId) (hn : xs.length ≤ 1000000) : Vi (w.alloc (.cells (i64s xs).toArray T)) (.slice (some ⟨w.heap.size, 0, none⟩) xs.length xs.length) xs := Sl.new w (i64s xs) T xs.length hn (Below.refl _ _)
set_option maxRecDepth 100000 in
set_option maxHeartbeats 8000000 in
theorem awake_c (w : World) : Calls Tryz.prog 37 #[] w (RetO w (.bool true)) := by
  obtain ⟨W0, hW0⟩ : ∃ W0, W0 = ((w.alloc (.cells #[.int .i64 0, .int .i64 2, .int .i64 12] 92)).alloc (.cells #[.int .i64 0, .int .i64 2, .int .i64 18] 92)).alloc (.cells #[.int .i64 2, .int .i64 0, .int .i64 12] 92) := ⟨_, rfl⟩
  have HB0 := Lib.hid (show Below w.heap.size w W0 from by rw [hW0]; exact bal (bal (bal (b0 w))))
  have R1 := Lib.hid (show Vr W0 (.slice (some ⟨w.heap.size, 0, none⟩) 1 1) rt1 from by
    rw [hW0]
    exact Sl.new w (rcs rt1) 92 1 (by omega) (((bal (bal (b0 (w.alloc (.cells (rcs rt1).toArray 92))))).mono (by simp)))
    )
  have R2 := Lib.hid (show Vr W0 (.slice (some ⟨w.heap.size + 1, 0, none⟩) 1 1) rt2 from by
    rw [hW0]
    have h := Sl.new (w.alloc (.cells #[.int .i64 0, .int .i64 2, .int .i64 12] 92)) (rcs rt2) 92 1 (by omega) (((bal (b0 ((w.alloc (.cells #[.int .i64 0, .int .i64 2, .int .i64 12] 92)).alloc (.cells (rcs rt2).toArray 92))) (o := .cells #[.int .i64 2, .int .i64 0, .int .i64 12] 92))).mono (by simp))
    rw [World.size_alloc] at h
    exact h)
  have R3 := Lib.hid (show Vr W0 (.slice (some ⟨w.heap.size + 1 + 1, 0, none⟩) 1 1) rt3 from by
    rw [hW0]
    have h := Sl.new ((w.alloc (.cells #[.int .i64 0, .int .i64 2, .int .i64 12] 92)).alloc (.cells #[.int .i64 0, .int .i64 2, .int .i64 18] 92)) (rcs rt3) 92 1 (by omega) (Below.refl _ _)
    rw [World.size_alloc, World.size_alloc] at h
    exact h)
  have HW0 := Lib.hid hW0
  clear hW0
  go_enter Tryz.func37, Tryz.ntmps37
  go_wp2_with fail
  rw [← HW0.out]
  go_at_call 97
  refine Calls.mono (circle_c W0) ?_
  rintro e w1 ⟨A1, c1, rfl, hb, hv⟩
  have HB1 := Lib.hid hb
  have V1 := Lib.hid hv
  clear hb hv
  go_wp2_with fail
  have C := Lib.hid (fl_c V1.out (R1.out.below (HB1.out)) ev1 ew1 rfl (by decide))
  go_at_call 38
  refine Calls.mono C.out ?_
  rintro e w2 ⟨A2, c2, rfl, hb, hv⟩
  have HB2 := Lib.hid (bthen HB1.out hb)
  have V2x := Lib.hid hv
  clear hb C hv
  go_wp2_with fail
  go_at_call 97
  refine Calls.mono (circle_c w2) ?_
  rintro e w3 ⟨A3, c3, rfl, hb, hv⟩
  have HB3 := Lib.hid (bthen HB2.out hb)
  replace V2x := Lib.hid (V2x.out.below (rq_stable 2) hb)
  have V3 := Lib.hid hv
  clear hb hv
  go_wp2_with fail
  have C := Lib.hid (fl_c V3.out (R2.out.below (HB3.out)) ev7 ew2 rfl (by decide))
  go_at_call 38
  refine Calls.mono C.out ?_
  rintro e w4 ⟨A4, c4, rfl, hb, hv⟩
  have HB4 := Lib.hid (bthen HB3.out hb)
  replace V2x := Lib.hid (V2x.out.below (rq_stable 2) hb)
  have V4x := Lib.hid hv
  clear hb C hv
  go_wp2_with fail
  go_at_call 97
  refine Calls.mono (circle_c w4) ?_
  rintro e w5 ⟨A5, c5, rfl, hb, hv⟩
  have HB5 := Lib.hid (bthen HB4.out hb)
  replace V2x := Lib.hid (V2x.out.below (rq_stable 2) hb)
  replace V4x := Lib.hid (V4x.out.below (rq_stable 2) hb)
  have V5 := Lib.hid hv
  clear hb hv
  go_wp2_with fail
  have C := Lib.hid (fe_c V5.out (vi_nil0 _) (R1.out.below (HB5.out)) ev3)
  go_at_call 44
  refine Calls.mono C.out ?_
  rintro e w6 ⟨rfl, hb⟩
  have HB6 := Lib.hid (bthen HB5.out hb)
  replace V2x := Lib.hid (V2x.out.below (rq_stable 2) hb)
  replace V4x := Lib.hid (V4x.out.below (rq_stable 2) hb)
  clear hb C
  go_wp2_with fail
  go_at_call 97
  refine Calls.mono (circle_c w6) ?_
  rintro e w7 ⟨A7, c7, rfl, hb, hv⟩
  have HB7 := Lib.hid (bthen HB6.out hb)
  replace V2x := Lib.hid (V2x.out.below (rq_stable 2) hb)
  replace V4x := Lib.hid (V4x.out.below (rq_stable 2) hb)
  have V7 := Lib.hid hv
  clear hb hv
  go_wp2_with fail
  have C := Lib.hid (fe_c V7.out (vi_nil0 _) (R2.out.below (HB7.out)) ev4)
  go_at_call 44
  refine Calls.mono C.out ?_
  rintro e w8 ⟨rfl, hb⟩
  have HB8 := Lib.hid (bthen HB7.out hb)
  replace V2x := Lib.hid (V2x.out.below (rq_stable 2) hb)
  replace V4x := Lib.hid (V4x.out.below (rq_stable 2) hb)
  clear hb C
  go_wp2_with fail
  have C := Lib.hid (fi_c (vi_new w8 [20, 25, 30] 2 (by simp)))
  go_at_call 98
  refine Calls.mono C.out ?_
  rintro e w9 ⟨A9, l9, c9, rfl, hb, hv⟩
  have HB9 := Lib.hid (bthen HB8.out (bthen (bal (b0 w8)) hb))
  replace V2x := Lib.hid (V2x.out.below (rq_stable 2) (bthen (bal (b0 w8)) hb))
  replace V4x := Lib.hid (V4x.out.below (rq_stable 2) (bthen (bal (b0 w8)) hb))
  have V9 := Lib.hid hv
  clear hb C hv
  go_wp2_with fail
  have C := Lib.hid (py_c (z := 120) (R1.out.below (HB9.out)) V9.out (by decide) ew3 (by decide) (by decide) (by decide))
  go_at_call 43
  refine Calls.mono C.out ?_
  rintro e w10 ⟨A10, c10, rfl, hb, hv⟩
  have HB10 := Lib.hid (bthen HB9.out hb)
  replace V2x := Lib.hid (V2x.out.below (rq_stable 2) hb)
  replace V4x := Lib.hid (V4x.out.below (rq_stable 2) hb)
  have V10x := Lib.hid hv
  clear hb C hv
  go_wp2_with fail
  have C := Lib.hid (fi_c (vi_new w10 [20, 25, 30] 2 (by simp)))
  go_at_call 98
  refine Calls.mono C.out ?_
  rintro e w11 ⟨A11, l11, c11, rfl, hb, hv⟩
  have HB11 := Lib.hid (bthen HB10.out (bthen (bal (b0 w10)) hb))
  replace V2x := Lib.hid (V2x.out.below (rq_stable 2) (bthen (bal (b0 w10)) hb))
  replace V4x := Lib.hid (V4x.out.below (rq_stable 2) (bthen (bal (b0 w10)) hb))
  replace V10x := Lib.hid (V10x.out.below (rq_stable 2) (bthen (bal (b0 w10)) hb))
  have V11 := Lib.hid hv
  clear hb C hv
  go_wp2_with fail
  have C := Lib.hid (py_c (z := -120) (R3.out.below (HB11.out)) V11.out (by decide) ew4 (by decide) (by decide) (by decide))
  go_at_call 43
  refine Calls.mono C.out ?_
  rintro e w12 ⟨A12, c12, rfl, hb, hv⟩
  have HB12 := Lib.hid (bthen HB11.out hb)
  replace V2x := Lib.hid (V2x.out.below (rq_stable 2) hb)
  replace V4x := Lib.hid (V4x.out.below (rq_stable 2) hb)
  replace V10x := Lib.hid (V10x.out.below (rq_stable 2) hb)
  have V12x := Lib.hid hv
  clear hb C hv
  go_wp2_with fail
  go_at_call 97
  refine Calls.mono (circle_c w12) ?_
  rintro e w13 ⟨A13, c13, rfl, hb, hv⟩
  have HB13 := Lib.hid (bthen HB12.out hb)
  replace V2x := Lib.hid (V2x.out.below (rq_stable 2) hb)
  replace V4x := Lib.hid (V4x.out.below (rq_stable 2) hb)
  replace V10x := Lib.hid (V10x.out.below (rq_stable 2) hb)
  replace V12x := Lib.hid (V12x.out.below (rq_stable 2) hb)
  have V13 := Lib.hid hv
  clear hb hv
  go_wp2_with fail
  have C := Lib.hid (fx_c (V13.out.below (bal (b0 w13))) (vi_new w13 [0, 1, 2] 3 (by simp)) (R1.out.below ((bal HB13.out))))
  go_at_call 38
  refine Calls.mono C.out ?_
  rintro e w14 ⟨rfl, hb⟩
  have HB14 := Lib.hid (bthen HB13.out (bthen (bal (b0 w13)) hb))
  replace V2x := Lib.hid (V2x.out.below (rq_stable 2) (bthen (bal (b0 w13)) hb))
  replace V4x := Lib.hid (V4x.out.below (rq_stable 2) (bthen (bal (b0 w13)) hb))
  replace V10x := Lib.hid (V10x.out.below (rq_stable 2) (bthen (bal (b0 w13)) hb))
  replace V12x := Lib.hid (V12x.out.below (rq_stable 2) (bthen (bal (b0 w13)) hb))
  clear hb C
  go_wp2_with fail
  go_at_call 97
  refine Calls.mono (circle_c w14) ?_
  rintro e w15 ⟨A15, c15, rfl, hb, hv⟩
  have HB15 := Lib.hid (bthen HB14.out hb)
  replace V2x := Lib.hid (V2x.out.below (rq_stable 2) hb)
  replace V4x := Lib.hid (V4x.out.below (rq_stable 2) hb)
  replace V10x := Lib.hid (V10x.out.below (rq_stable 2) hb)
  replace V12x := Lib.hid (V12x.out.below (rq_stable 2) hb)
  have V15 := Lib.hid hv
  clear hb hv
  go_wp2_with fail
  have C := Lib.hid (fe_c (V15.out.below (bal (b0 w15))) (vi_new w15 [0, 1, 2] 3 (by simp)) (R1.out.below ((bal HB15.out))) ev8)
  go_at_call 44
  refine Calls.mono C.out ?_
  rintro e w16 ⟨rfl, hb⟩
  have HB16 := Lib.hid (bthen HB15.out (bthen (bal (b0 w15)) hb))
  replace V2x := Lib.hid (V2x.out.below (rq_stable 2) (bthen (bal (b0 w15)) hb))
  replace V4x := Lib.hid (V4x.out.below (rq_stable 2) (bthen (bal (b0 w15)) hb))
  replace V10x := Lib.hid (V10x.out.below (rq_stable 2) (bthen (bal (b0 w15)) hb))
  replace V12x := Lib.hid (V12x.out.below (rq_stable 2) (bthen (bal (b0 w15)) hb))
  clear hb C
  go_wp2_with fail
  have C := Lib.hid (rw_c (V2x.out.below (rq_stable 2) (bal (b0 _))) (vi_new w16 [4, 4, 8] 2 (by simp)) er1 (by decide) (by decide))
  go_at_call 99
  refine Calls.mono C.out ?_
  rintro e w17 ⟨rfl, hb⟩
  have HB17 := Lib.hid (bthen HB16.out (bthen (bal (b0 w16)) hb))
  replace V2x := Lib.hid (V2x.out.below (rq_stable 2) (bthen (bal (b0 w16)) hb))
  replace V4x := Lib.hid (V4x.out.below (rq_stable 2) (bthen (bal (b0 w16)) hb))
  replace V10x := Lib.hid (V10x.out.below (rq_stable 2) (bthen (bal (b0 w16)) hb))
  replace V12x := Lib.hid (V12x.out.below (rq_stable 2) (bthen (bal (b0 w16)) hb))
  clear hb C
  go_wp2_with fail
  have C := Lib.hid (rw_c (V4x.out.below (rq_stable 2) (bal (b0 _))) (vi_new w17 [6, 6, 12] 2 (by simp)) er2 (by decide) (by decide))
  go_at_call 99
  refine Calls.mono C.out ?_
  rintro e w18 ⟨rfl, hb⟩
  have HB18 := Lib.hid (bthen HB17.out (bthen (bal (b0 w17)) hb))
  replace V2x := Lib.hid (V2x.out.below (rq_stable 2) (bthen (bal (b0 w17)) hb))
  replace V4x := Lib.hid (V4x.out.below (rq_stable 2) (bthen (bal (b0 w17)) hb))
  replace V10x := Lib.hid (V10x.out.below (rq_stable 2) (bthen (bal (b0 w17)) hb))
  replace V12x := Lib.hid (V12x.out.below (rq_stable 2) (bthen (bal (b0 w17)) hb))
  clear hb C
  go_wp2_with fail
  have C := Lib.hid (rw_c (V10x.out.below (rq_stable 2) (bal (b0 _))) (vi_new w18 [120] 2 (by simp)) er3 (by decide) (by decide))
  go_at_call 99
  refine Calls.mono C.out ?_
  rintro e w19 ⟨rfl, hb⟩
  have HB19 := Lib.hid (bthen HB18.out (bthen (bal (b0 w18)) hb))
  replace V2x := Lib.hid (V2x.out.below (rq_stable 2) (bthen (bal (b0 w18)) hb))
  replace V4x := Lib.hid (V4x.out.below (rq_stable 2) (bthen (bal (b0 w18)) hb))
  replace V10x := Lib.hid (V10x.out.below (rq_stable 2) (bthen (bal (b0 w18)) hb))
  replace V12x := Lib.hid (V12x.out.below (rq_stable 2) (bthen (bal (b0 w18)) hb))
  clear hb C
  go_wp2_with fail
  have C := Lib.hid (rw_c (V12x.out.below (rq_stable 2) (bal (b0 _))) (vi_new w19 [-120] 2 (by simp)) er4 (by decide) (by decide))
  go_at_call 99
  refine Calls.mono C.out ?_
  rintro e w20 ⟨rfl, hb⟩
  have HB20 := Lib.hid (bthen HB19.out (bthen (bal (b0 w19)) hb))
  replace V2x := Lib.hid (V2x.out.below (rq_stable 2) (bthen (bal (b0 w19)) hb))
  replace V4x := Lib.hid (V4x.out.below (rq_stable 2) (bthen (bal (b0 w19)) hb))
  replace V10x := Lib.hid (V10x.out.below (rq_stable 2) (bthen (bal (b0 w19)) hb))
  replace V12x := Lib.hid (V12x.out.below (rq_stable 2) (bthen (bal (b0 w19)) hb))
  clear hb C
  go_wp2_with fail
  go_ret
  exact ⟨rfl, bthen HB0.out HB20.out⟩
end Go.Proofs.YtdkfdamihnieiaaGreat
end
