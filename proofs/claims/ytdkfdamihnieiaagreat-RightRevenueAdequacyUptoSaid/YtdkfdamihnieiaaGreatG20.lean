/- Contracts of package mat, part 3: Resize, Identity, Concat. -/
import Derived.Test.YtdkfdamihnieiaaGreatG19
set_option linter.unusedSimpArgs false
set_option linter.unusedVariables false
section
open Go Go.RowKit Go.Shelf
namespace Go.Proofs.YtdkfdamihnieiaaGreat
open Go.Proofs
attribute [local go_sem] Oper.semAt_some wide_fn wide_depth
theorem ownsRow_base {w : World} {base base' : Nat} {e : TypeId} {size : Nat} {v : Value} {n : Nat} {xs : List Value} (h : w.ownsRow base e size v n xs) (hb : base' ≤ base) : w.ownsRow base' e size v n xs := by
  refine ⟨h.1, h.2.imp_right ?_⟩
  rintro ⟨g, cap, cur, e1, hg, h2⟩
  exact ⟨g, cap, cur, e1, Nat.le_trans hb hg, h2⟩
theorem Grid.base {base base' W sv m rs} (H : Grid base W sv m rs) (hb : base' ≤ base) : Grid base' W sv m rs := ⟨ownsRow_base H.own hb, H.len, H.blk, H.rlen, H.el, fun i hi => Nat.le_trans hb (H.low i hi), H.apart⟩
theorem Vm.qb {n0 B w v m} (h : Vm n0 (YtdkfdamihnieiaaGreat.rq B) w v m) (hB : 0 < B) (i k : Nat) : qB (atM m i k) B := by
  unfold atM
  by_cases hi : i < m.length
  · obtain ⟨A, l, c, rfl⟩ := h.shape
    obtain rfl := h.len
    obtain ⟨b, o, A', c', rfl, x0, hq⟩ := h.at hi
    by_cases hk : k < (m.getD i []).length
    · obtain ⟨b2, o2, n, s, mm, t, rfl, hx, _⟩ := hq.elem hk
      exact isQ.size hx hB
    · rw [List.getD_eq_getElem?_getD (l := m.getD i []), List.getElem?_eq_none (by omega)]; exact qB_zero hB
  · rw [List.getD_eq_getElem?_getD (l := m), List.getElem?_eq_none (by omega)]; exact qB_zero hB
set_option maxHeartbeats 1000000 in
theorem resize_m {n0 B : Nat} {w : World} {v : Value} {m : List (List Rat)} (h : Vm n0 (rq B) w v m) (r c : Nat) (hr : r ≤ 1024) (hc : c ≤ 1024) (hB0 : 0 < B) (hB : B ≤ 400000000) : Calls Tryz.prog 129 #[v, .int .i64 (r : Int), .int .i64 (c : Int)] w (RetG w (gridL (atM m) r c)) := by
  have hq := h.qb hB0
  have hV := fun W (hb : Below w.heap.size w W) => h.below (rq_stable B) hb
  obtain ⟨A, l, c1, rfl⟩ := h.shape
  have hx := Blk.new w [.slice A l c1] 56 rfl
  have HG := Lib.hid (grid_c (w := w.alloc (.cells #[.slice A l c1] 56)) r c 199 #[.pointer (some ⟨w.heap.size, 0, none⟩)] (atM m) (enters_of Tryz.func199 (by kernel_rfl) rfl) (fun W i k hb _ _ => resize1_c (hV W (bthen (bal (b0 w)) hb)) ((hx.below hb).cell 0) i k hB0 hB) hq hB0 hB hr hc)
  clear h hq hV hx
  go_enter Tryz.func129, Tryz.ntmps129
  go_wp2_with (first
    | (go_at_call 198; (with_reducible refine Calls.mono (cut_c _ r hr) ?_); rintro e w1 ⟨rfl, rfl⟩)
    | (go_at_call 198; (with_reducible refine Calls.mono (cut_c _ c hc) ?_); rintro e w1 ⟨rfl, rfl⟩)
    | (go_at_call 201; (with_reducible refine Calls.mono HG.out ?_); rintro e w1 ⟨A', l', c', rs, rfl, hb1, hg1⟩))
  go_ret
  exact ⟨A', l', c', rs, rfl, bthen (bal (b0 w)) hb1, hg1.base (by simp)⟩
set_option maxRecDepth 100000 in
set_option maxHeartbeats 2000000 in
theorem unit_o (w : World) (n k : Nat) (hn : n ≤ 65536) (hk : k < n) : Calls Tryz.prog 86 #[.int .i64 (n : Int), .int .i64 (k : Int)] w fun e w' => e = .returned (.slice (some ⟨w.heap.size, 0, none⟩) n n) ∧ ∃ l', MadeO (fun b => w.heap.size ≤ b) w w' w.heap.size (unitL n k) l' := by
  obtain ⟨W1, mk, H0, hlt⟩ := make_O (fun b => w.heap.size ≤ b) w n (by omega)
  go_enter Tryz.func86, Tryz.ntmps86
  go_upto_region 3 with fail
  go_wp2_with (go_at_call 49; (with_reducible refine Calls.mono (fromInt_q 1 (by omega) (by omega)) ?_); rintro e w2 ⟨n3, A3, l3, c3, m3, D3, e3, g3, rfl, hb2, hr2⟩; have HM := Lib.hid (H0.out.later hb2); obtain ⟨m, m', p, q, ⟨k0, k1, k2, k3⟩, _⟩ := HM.out.four (k := k) (by rw [List.length_replicate]; exact hk); have hf := HM.out.frozen)
  go_ret
  exact ⟨rfl, _, HM.out.set (k := k) (y := ⟨n3, .slice A3 l3 c3, m3, .slice D3 e3 g3⟩) (q := 1) (by rw [List.length_replicate]; exact hk) (hr2.mono (fun b _ hb => by simp [fresh] at hb; omega))⟩
def idL (n : Nat) : List (List Rat) := (List.range n).map (unitL n)
theorem idL_take {n k : Nat} (hk : k < n) : (idL n).take (k + 1) = (idL n).take k ++ [unitL n k] := by
  have : k < (idL n).length := by simp [idL]; exact hk
  rw [List.take_succ_eq_append_getElem this]; simp [idL]
set_option maxRecDepth 100000 in
set_option maxHeartbeats 2000000 in
theorem identity_c (w : World) (n : Nat) (hn : n ≤ 1024) : Calls Tryz.prog 178 #[.int .i64 (n : Int)] w (RetG w (idL n)) := by
  obtain ⟨i0, hi, hz0, hz1, hz2⟩ := info_parts' Tryz.info26
  go_enter Tryz.func178, Tryz.ntmps178
  go_wp2_with (go_at_call 198; (with_reducible refine Calls.mono (cut_c _ n hn) ?_); rintro e w1 ⟨rfl, rfl⟩)
  go_loopw [2, 6] (fun sv iv wr => ∃ (k : Nat) (A' : Option Addr) (c' : Nat) (rs : List Row1), k ≤ n ∧ iv = .int .i64 (k : Int) ∧ sv = .slice A' k c' ∧ Hid (Grid w1.heap.size wr (.slice A' k c') ((idL n).take k) rs) ∧ Below w1.heap.size w1 wr) (fun _ iv _ => n - (intOf iv).toNat)
  case atStart => exact ⟨0, none, 0, [], by omega, rfl, rfl, Lib.hid (Grid.start _ _), b0 _⟩
  case round =>
    obtain ⟨k, A', c', rs, hk, rfl, rfl, HG, hbl⟩ := hrel
    obtain ⟨M, hM0⟩ : ∃ M, M = (idL n).take k := ⟨_, rfl⟩
    rw [← hM0] at HG
    have HGL := Lib.hid (show M.length = k by rw [hM0]; simp [idL]; omega)
    have HM0 := Lib.hid hM0
    clear hM0
    by_cases hlt : k < n
    · obtain ⟨wo, rfl⟩ : ∃ wo : World, wo = wr := ⟨_, rfl⟩
      have HBL := Lib.hid hbl
      clear hbl
      go_wp2_with (first
        | (go_at_call 198; (with_reducible refine Calls.mono (cut_c _ n hn) ?_); rintro e w2 ⟨rfl, rfl⟩)
        | (go_at_call 86; (with_reducible refine Calls.mono (unit_o _ n k (by omega) hlt) ?_); rintro e w3 ⟨rfl, l', hM⟩; have HMM := Lib.hid (hM.later (bal (b0 w3) (o := .cells #[.slice (some ⟨w2.heap.size, 0, none⟩) n n] 26))); have HGG := Lib.hid (HG.out.later (bthen hM.below (bal (b0 w3) (o := .cells #[.slice (some ⟨w2.heap.size, 0, none⟩) n n] 26)))); have Hll := Lib.hid (show l'.length = n by rw [hM.len]; simp [unitL]); clear hM)
        | (at_builtin; refine wpList_append_1 rfl (.tmp 9) (.tmp 14) 56 rfl w1.heap.size 26 i0 (.slice none 0 0) 1 24 Tryz.under56 hi hz0 hz1 hz2 rfl (by decide) _ _ _ rfl HGG.out.own ⟨w3.heap.size, 0, none⟩ 1 1 [.slice (some ⟨w2.heap.size, 0, none⟩) n n] rfl rfl ?c1 ?c2 ?c3 ?c4 ?c5 ?_))
      case c1 =>
        intro j u hu
        rw [addr_add0, Nat.zero_add, World.cell?_alloc_new]; simpa using hu
      case c2 => intro u hu; simp at hu; subst hu; simp [Value.oneCell']
      case c3 => rw [HGL.out]; unfold maxLen; omega
      case c4 => rw [HGL.out]; omega
      case c5 => have := HBL.out.size; have := HMM.out.below.size; omega
      intro A2 cc w4 hown' hgrow hblk
      have hst := HGG.out.step (r := ⟨w2.heap.size, l'⟩) (q := unitL n k) (v' := .slice A2 (M.length + 1) cc) HMM.out.blk HMM.out.len (fun j hj => (HMM.out.el j hj).mono (fun b _ hb e => by
        have h9 := (HG.out.own.lt b e).2
        omega)) HBL.out.size (fun i' hi' e => by
        have h9 := (HG.out.blk i' hi').lt
        simp only at e; omega) (by rw [show (Row1.v ⟨w2.heap.size, l'⟩) = .slice (some ⟨w2.heap.size, 0, none⟩) n n by unfold Row1.v; rw [Hll.out]]; exact hown') hgrow (fun g hg => (hblk g hg).imp_right (fun h => by simpa using h))
      rw [HGL.out] at hst
      have HST := Lib.hid hst
      have HB3 := Lib.hid (show Below w1.heap.size w1 w4 from (bthen HBL.out HMM.out.below).grown hgrow (Nat.le_trans HBL.out.size HMM.out.below.size) (fun g hg => (HG.out.own.lt g hg).1))
      clear hst hown' hgrow hblk
      go_wp2
      refine ⟨⟨k + 1, A2, cc, rs ++ [⟨w2.heap.size, l'⟩], by omega, val_int (by omega), by rw [HGL.out], Lib.hid ?_, HB3.out⟩, by simp [intOf]; omega⟩
      rw [idL_take hlt, ← HM0.out]
      exact HST.out
    · obtain rfl : k = n := by omega
      go_wp2
      go_ret
      have hG := HG.out
      rw [HM0.out, List.take_of_length_le (by simp [idL])] at hG
      exact ⟨A', k, c', rs, rfl, hbl, hG⟩
set_option maxRecDepth 100000 in
set_option maxHeartbeats 4000000 in
theorem concat_c {n0 B : Nat} {w : World} {va vb : Value} {ma mb : List (List Rat)} (ha : Vm n0 (rq B) w va ma) (hb : Vm n0 (rq B) w vb mb) (hl : ma.length = mb.length) (hr : ma.length ≤ 1024) (hc : colsL ma + colsL mb ≤ 1024) (hB0 : 0 < B) (hB : B ≤ 400000000) :
    Calls Tryz.prog 177 #[va, vb] w (RetG w (gridL (fun i k => if k < colsL ma then atM ma i k else atM mb i (k - colsL ma)) ma.length (colsL ma + colsL mb))) := by
  have hqa := ha.qb hB0
  have hqb := hb.qb hB0
  have HVA := Lib.hid (fun W (h : Below w.heap.size w W) => ha.below (rq_stable B) h)
  have HVB := Lib.hid (fun W (h : Below w.heap.size w W) => hb.below (rq_stable B) h)
  obtain ⟨A1, l1, c1, rfl⟩ := ha.shape
  obtain ⟨A2, l2, c2, rfl⟩ := hb.shape
  obtain rfl := ha.len
  obtain rfl := hb.len
  obtain ⟨r, hr0⟩ : ∃ r, r = ma.length := ⟨_, rfl⟩
  rw [← hl, ← hr0] at HVB ⊢
  rw [← hr0] at HVA hr
  obtain ⟨ca, hca⟩ : ∃ ca, ca = colsL ma := ⟨_, rfl⟩
  obtain ⟨cb, hcb⟩ : ∃ cb, cb = colsL mb := ⟨_, rfl⟩
  rw [← hca, ← hcb] at hc
  rw [← hca, ← hcb]
  have HCA := Lib.hid hca
  have HCB := Lib.hid hcb
  have HX0 := Lib.hid (Blk.al (o := .cells #[.int .i64 (ca : Int)] 3) (Blk.al (o := .cells #[.slice A2 r c2] 56) (Blk.new w [.slice A1 r c1] 56 rfl)))
  have HX1 := Lib.hid (Blk.al (o := .cells #[.int .i64 (ca : Int)] 3) (Blk.new (w.alloc (.cells #[.slice A1 r c1] 56)) [.slice A2 r c2] 56 (n := w.heap.size + 1) (by simp)))
  have HX2 := Lib.hid (Blk.new ((w.alloc (.cells #[.slice A1 r c1] 56)).alloc (.cells #[.slice A2 r c2] 56)) [.int .i64 (ca : Int)] 3 (n := w.heap.size + 1 + 1) (by simp))
  have hwr : IntKind.i64.wrap ((ca : Int) + (cb : Int)) = (ca : Int) + (cb : Int) := by rw [IntKind.wrap_i64]; omega
  clear ha hb hl hr0 hca hcb
  have HC1 := Lib.hid (cols_c (HVA.out _ (bal (bal (b0 w) (o := .cells #[.slice A1 r c1] 56)) (o := .cells #[.slice A2 r c2] 56))))
  rw [← HCA.out] at HC1
  refine (callsIn_wide (n := 10)).1 ?_
  refine callsIn_of_wp Tryz.func177 rfl trivial ?_ rfl
  simp only [Tryz.ntmps177, List.size_toArray, List.length_cons, List.length_nil, Nat.reduceAdd, Nat.reduceSub, Array.replicate_succ, Array.replicate_zero, List.push_toArray, List.append_toArray, List.nil_append, List.cons_append]
  gi_wp2_with (gi_at_call 156; (with_reducible refine CallsIn.mono (callsIn_wide.2 HC1.out) ?_); rintro e w1 ⟨rfl, rfl⟩)
  refine wpIn_region_Y (by kernel_rfl) (by kernel_rfl) 12 1 rfl (by kernel_rfl) (fun u => { tmps := #[.slice A1 r c1, .slice A2 r c2, .pointer (some ⟨w.heap.size, 0, none⟩), .pointer (some ⟨w.heap.size + 1, 0, none⟩), .slice none 0 0, .pointer (some ⟨w.heap.size + 1 + 1, 0, none⟩), .slice A1 r c1, .int .i64 (ca : Int), u 0, u 1, u 2, u 3, u 4, u 5, u 6, u 7, u 8, u 9, u 10, u 11], defers := [] }) (fun _ => undef) rfl (fun W1 W2 => Below W1.heap.size W1 W2) (fun _ => Below.refl _ _) (fun h1 h2 => bthen h1 h2)
    (fun j9 v W1 => match j9 with
      | 0 => v = .slice A1 r c1
      | 1 => v = .int .i64 (r : Int)
      | 2 => v = .slice A2 r c2
      | 3 => v = .int .i64 (r : Int)
      | 4 => v = .int .i64 (r : Int)
      | 5 => v = .int .i64 (ca : Int)
      | 6 => v = .slice A2 r c2
      | 7 => v = .int .i64 (cb : Int)
      | 8 => v = .int .i64 ((ca : Int) + (cb : Int))
      | 9 => v = .func (.func 236) #[] #[.pointer (some ⟨w.heap.size + 1 + 1, 0, none⟩), .pointer (some ⟨w.heap.size, 0, none⟩), .pointer (some ⟨w.heap.size + 1, 0, none⟩)]
      | 10 => v = .agg #[.int .i64 (r : Int), .int .i64 ((ca : Int) + (cb : Int)), .func (.func 236) #[] #[.pointer (some ⟨w.heap.size + 1 + 1, 0, none⟩), .pointer (some ⟨w.heap.size, 0, none⟩), .pointer (some ⟨w.heap.size + 1, 0, none⟩)]]
      | 11 => ∃ A l c rs, v = .slice A l c ∧ Grid w.heap.size W1 (.slice A l c) (gridL (fun i k => if k < ca then atM ma i k else atM mb i (k - ca)) r (ca + cb)) rs
      | _ => True) ?hY ?step ?fin
  case hY =>
    intro k v W1 W2 h hb
    match k, h with
    | 0, h => exact h
    | 1, h => exact h
    | 2, h => exact h
    | 3, h => exact h
    | 4, h => exact h
    | 5, h => exact h
    | 6, h => exact h
    | 7, h => exact h
    | 8, h => exact h
    | 9, h => exact h
    | 10, h => exact h
    | 11, ⟨A, l, c, rs, e, h⟩ => exact ⟨A, l, c, rs, e, h.later hb⟩
    | k + 12, h => trivial
  case step =>
    intro u W' j o hj ho hR hpre
    have hbw : Below (((w.alloc (Obj.cells #[.slice A1 r c1] 56)).alloc (Obj.cells #[.slice A2 r c2] 56)).alloc (Obj.cells #[.int .i64 (ca : Int)] 3)).heap.size (((w.alloc (Obj.cells #[.slice A1 r c1] 56)).alloc (Obj.cells #[.slice A2 r c2] 56)).alloc (Obj.cells #[.int .i64 (ca : Int)] 3)) W' := bthen (bdr (b0 (((w.alloc (Obj.cells #[.slice A1 r c1] 56)).alloc (Obj.cells #[.slice A2 r c2] 56)).alloc (Obj.cells #[.int .i64 (ca : Int)] 3)))) hR
    have hbo : Below w.heap.size w W' := (bal (bal (bal (b0 w)))).trans (hbw.mono (by simp; omega))
    have x0 := (HX0.out.below hbw).cell 0
    have x1 := (HX1.out.below hbw).cell 0
    have x2 := (HX2.out.below hbw).cell 0
    simp only [List.getElem?_cons_zero] at x0 x1 x2
    obtain rfl | rfl | rfl | rfl | rfl | rfl | rfl | rfl | rfl | rfl | rfl | rfl : j = 0 ∨ j = 1 ∨ j = 2 ∨ j = 3 ∨ j = 4 ∨ j = 5 ∨ j = 6 ∨ j = 7 ∨ j = 8 ∨ j = 9 ∨ j = 10 ∨ j = 11 := by omega
    · simp at ho
      subst ho
      simp [Region.binds] at hpre
      refine wpOpIn_step rfl (fun K' hK => ?_)
      simp only [Region.wanted]
      have HK := Lib.hid hK
      clear hK
      gi_wp2
      exact HK.out _ _ ⟨.slice A1 r c1, by simp [upd, undef, *], Below.refl _ _, rfl⟩
    · simp at ho
      subst ho
      simp [Region.binds] at hpre
      refine wpOpIn_step rfl (fun K' hK => ?_)
      simp only [Region.wanted]
      have HK := Lib.hid hK
      clear hK
      gi_wp2
      exact HK.out _ _ ⟨.int .i64 (r : Int), by simp [upd, undef, *], Below.refl _ _, rfl⟩
    · simp at ho
      subst ho
      simp [Region.binds] at hpre
      refine wpOpIn_step rfl (fun K' hK => ?_)
      simp only [Region.wanted]
      have HK := Lib.hid hK
      clear hK
      gi_wp2
      exact HK.out _ _ ⟨.slice A2 r c2, by simp [upd, undef, *], Below.refl _ _, rfl⟩
    · simp at ho
      subst ho
      simp [Region.binds] at hpre
      refine wpOpIn_step rfl (fun K' hK => ?_)
      simp only [Region.wanted]
      have HK := Lib.hid hK
      clear hK
      gi_wp2
      exact HK.out _ _ ⟨.int .i64 (r : Int), by simp [upd, undef, *], Below.refl _ _, rfl⟩
    · simp at ho
      subst ho
      simp [Region.binds] at hpre
      refine wpOpIn_step rfl (fun K' hK => ?_)
      simp only [Region.wanted]
      have HK := Lib.hid hK
      clear hK
      gi_wp2
      exact HK.out _ _ ⟨.int .i64 (r : Int), by simp [upd, undef, *], Below.refl _ _, rfl⟩
    · simp at ho
      subst ho
      simp [Region.binds] at hpre
      refine wpOpIn_step rfl (fun K' hK => ?_)
      simp only [Region.wanted]
      have HK := Lib.hid hK
      clear hK
      gi_wp2
      exact HK.out _ _ ⟨.int .i64 (ca : Int), by simp [upd, undef, *], Below.refl _ _, rfl⟩
    · simp at ho
      subst ho
      simp [Region.binds] at hpre
      refine wpOpIn_step rfl (fun K' hK => ?_)
      simp only [Region.wanted]
      have HK := Lib.hid hK
      clear hK
      gi_wp2
      exact HK.out _ _ ⟨.slice A2 r c2, by simp [upd, undef, *], Below.refl _ _, rfl⟩
    · simp at ho
      subst ho
      simp [Region.binds] at hpre
      have HF := Lib.hid (cols_c (HVB.out W' hbo))
      rw [← HCB.out] at HF
      refine wpOpIn_step rfl (fun K' hK => ?_)
      simp only [Region.wanted]
      have HK := Lib.hid hK
      clear hK
      gi_wp2_with (gi_at_call 156; (with_reducible refine CallsIn.mono (callsIn_wide.2 HF.out) ?_); rintro e w1 ⟨rfl, rfl⟩)
      refine HK.out _ _ ⟨.int .i64 (cb : Int), by simp [upd, undef, Qx.v, Qx.zero, *], Below.refl _ _, rfl⟩
    · simp at ho
      subst ho
      simp [Region.binds] at hpre
      refine wpOpIn_step rfl (fun K' hK => ?_)
      simp only [Region.wanted]
      have HK := Lib.hid hK
      clear hK
      gi_wp2
      exact HK.out _ _ ⟨.int .i64 ((ca : Int) + (cb : Int)), by simp [upd, undef, *], Below.refl _ _, rfl⟩
    · simp at ho
      subst ho
      simp [Region.binds] at hpre
      refine wpOpIn_step rfl (fun K' hK => ?_)
      simp only [Region.wanted]
      have HK := Lib.hid hK
      clear hK
      gi_wp2
      exact HK.out _ _ ⟨.func (.func 236) #[] #[.pointer (some ⟨w.heap.size + 1 + 1, 0, none⟩), .pointer (some ⟨w.heap.size, 0, none⟩), .pointer (some ⟨w.heap.size + 1, 0, none⟩)], by simp [upd, undef, *], Below.refl _ _, rfl⟩
    · simp at ho
      subst ho
      simp [Region.binds] at hpre
      refine wpOpIn_step rfl (fun K' hK => ?_)
      simp only [Region.wanted]
      have HK := Lib.hid hK
      clear hK
      gi_wp2
      exact HK.out _ _ ⟨.agg #[.int .i64 (r : Int), .int .i64 ((ca : Int) + (cb : Int)), .func (.func 236) #[] #[.pointer (some ⟨w.heap.size + 1 + 1, 0, none⟩), .pointer (some ⟨w.heap.size, 0, none⟩), .pointer (some ⟨w.heap.size + 1, 0, none⟩)]], by simp [upd, undef, *], Below.refl _ _, rfl⟩
    · simp at ho
      subst ho
      simp [Region.binds] at hpre
      have hww := hbo.size
      have HF := Lib.hid (grid_c (w := W') r (ca + cb) 236 #[.pointer (some ⟨w.heap.size + 1 + 1, 0, none⟩), .pointer (some ⟨w.heap.size, 0, none⟩), .pointer (some ⟨w.heap.size + 1, 0, none⟩)] (fun i k => if k < ca then atM ma i k else atM mb i (k - ca)) (enters_of Tryz.func236 (by kernel_rfl) rfl) (fun W i k hb hi hk => concat1_c (HVA.out W (bthen hbo hb)) (HVB.out W (bthen hbo hb)) (((HX2.out.below hbw).below hb).cell 0) (((HX0.out.below hbw).below hb).cell 0) (((HX1.out.below hbw).below hb).cell 0) i k (by omega) hB0 hB) (fun i k => by split <;> first | exact hqa _ _ | exact hqb _ _) hB0 hB hr hc)
      rw [show ((ca + cb : Nat) : Int) = (ca : Int) + (cb : Int) from by omega] at HF
      refine wpOpIn_step rfl (fun K' hK => ?_)
      simp only [Region.wanted]
      have HK := Lib.hid hK
      clear hK
      gi_wp2_with (gi_at_call 201; (with_reducible refine CallsIn.mono (callsIn_wide.2 HF.out) ?_); rintro e w1 ⟨A, l, c, rs, rfl, hb1, hg1⟩)
      refine HK.out _ _ ⟨.slice A l c, by simp [upd, undef, Qx.v, Qx.zero, *], hb1, A, l, c, rs, rfl, hg1.base hww⟩
  case fin =>
    intro u W' hR hY
    have hbw : Below (((w.alloc (Obj.cells #[.slice A1 r c1] 56)).alloc (Obj.cells #[.slice A2 r c2] 56)).alloc (Obj.cells #[.int .i64 (ca : Int)] 3)).heap.size (((w.alloc (Obj.cells #[.slice A1 r c1] 56)).alloc (Obj.cells #[.slice A2 r c2] 56)).alloc (Obj.cells #[.int .i64 (ca : Int)] 3)) W' := bthen (bdr (b0 (((w.alloc (Obj.cells #[.slice A1 r c1] 56)).alloc (Obj.cells #[.slice A2 r c2] 56)).alloc (Obj.cells #[.int .i64 (ca : Int)] 3)))) hR
    have hbo : Below w.heap.size w W' := (bal (bal (bal (b0 w)))).trans (hbw.mono (by simp; omega))
    obtain ⟨A, l, c, rs, g11, hG⟩ := hY 11 (by omega)
    have HBO := Lib.hid hbo
    have HGG := Lib.hid hG
    clear hY hR hbw hbo hG
    refine wpTail_step (i' := 13) (c := 0) rfl ?_
    rw [g11]
    refine wpOpIn_step rfl (fun K' hK => ?_)
    simp only [Region.wanted, List.getElem_toArray, List.getElem_cons_succ, List.getElem_cons_zero]
    have HK := Lib.hid hK
    clear hK
    gi_wp2
    refine HK.out _ _ (wpTail_end ?_)
    clear HK
    gi_wp2
    go_ret
    exact ⟨A, l, c, rs, rfl, HBO.out, HGG.out⟩
end Go.Proofs.YtdkfdamihnieiaaGreat
end
section
/- Package solve, part 1: by, begin. -/
open Go Go.RowKit Go.Shelf
namespace Go.Proofs.YtdkfdamihnieiaaGreat
open Go.Proofs
set_option maxHeartbeats 1000000 in
theorem by_c {ok1 ok2 w va vb p q A B} (h1 : isQ ok1 w va p A) (h2 : isQ ok2 w vb q B) (hA0 : 0 < A) (hB0 : 0 < B) (hA : A ≤ 400000000) (hB : B ≤ 400000000) (hne : q ≠ 0) : Calls Tryz.prog 247 #[va, vb] w (RetQ w (fresh w) (p / q)) := by
  obtain ⟨n1, A1, l1, c1, m1, D1, e1, g1, rfl⟩ := h1.shape
  obtain ⟨n2, A2, l2, c2, m2, D2, e2, g2, rfl⟩ := h2.shape
  obtain ⟨z0, z1, z2, z3, z4⟩ := z3 w.heap.size
  go_enter Tryz.func247, Tryz.ntmps247
  go_wp2_with (go_at_call 110; (with_reducible refine Calls.mono (div_q (h1.below (bal (bal (bal (b0 _))))) (h2.below (bal (bal (bal (b0 _))))) hA0 hB0 hA hB hne) ?_); rintro e w1 ⟨n3, A3, l3, c3, m3, D3, e3, g3, rfl, hb1, hr⟩; have B1 := Bx.step (Bx.refl (n := w.heap.size + 3) (((w.alloc (Obj.cells #[Value.bool n1, .slice A1 l1 c1, .bool m1, .slice D1 e1 g1] 44)).alloc (Obj.cells #[Value.bool n2, .slice A2 l2 c2, .bool m2, .slice D2 e2 g2] 44)).alloc (Obj.cells #[Value.bool false, .slice none 0 0, .bool false, .slice none 0 0] 44)) (by simp)) hb1; have k1 := B1.cell; have f1 := B1.frozen; have s1 := B1.s; have l1' : w.heap.size + 1 + 1 < w1.heap.size := by omega)
  have hz := (Blk.new4 (W := (w.alloc (Obj.cells #[Value.bool n1, .slice A1 l1 c1, .bool m1, .slice D1 e1 g1] 44)).alloc (Obj.cells #[Value.bool n2, .slice A2 l2 c2, .bool m2, .slice D2 e2 g2] 44)) (n := w.heap.size + 1 + 1) (T := 44) (x := .bool false) (y := .slice none 0 0) (z := .bool false) (u := .slice none 0 0) (by simp)).below hb1
  have ht := (st4_blk0 (y := Qx.zero) (z := ⟨n3, .slice A3 l3 c3, m3, .slice D3 e3 g3⟩) hz).al (o := .cells #[Value.bool n3, .slice A3 l3 c3, .bool m3, .slice D3 e3 g3] 44)
  obtain ⟨t0, t1, t2, t3⟩ := four1 (n3 := .bool n3) (s3 := .slice A3 l3 c3) (m3 := .bool m3) (t3 := .slice D3 e3 g3) ht
  simp only [st4, Nat.zero_add] at t0 t1 t2 t3
  refine bodyPost_ret (v := .agg #[.bool n3, .slice A3 l3 c3, .bool m3, .slice D3 e3 g3]) ?_ rfl ?_
  · simp [results, Tryz.results247, go_sem, t0, t1, t2, t3]
  · obtain ⟨a1, a2, a3, a4, a5, a6, a7, a8, h1, h2, h3⟩ := RetQ.set4 (W := ((w.alloc (Obj.cells #[Value.bool n1, .slice A1 l1 c1, .bool m1, .slice D1 e1 g1] 44)).alloc (Obj.cells #[Value.bool n2, .slice A2 l2 c2, .bool m2, .slice D2 e2 g2] 44)).alloc (Obj.cells #[Value.bool false, .slice none 0 0, .bool false, .slice none 0 0] 44)) (b := w.heap.size + 1 + 1) (bthen (bal (bal (bal (b0 w)))) hb1) hr (by omega) (by simp)
    exact ⟨a1, a2, a3, a4, a5, a6, a7, a8, h1, bal h2, isQc.al h3⟩
/-- A matrix under elimination. -/
structure WorkI (base n0 : Nat) (W : World) (g : Nat) (m : List (List Rat)) (piv : List Nat) (sv pv : Value) (vs : List Value) : Prop where
  blk : Blk W g 176 [sv, pv, .func (.func 222) #[] #[], .func (.func 223) #[] #[]]
  mat : MatO (okr pv) base n0 W sv vs m
  piv : W.ownsRow base 3 1 pv piv.length (i64s (piv.map fun (k : Nat) => (k : Int)))
  low : base ≤ g
theorem WorkI.later {base n0 W W' g m p sv pv vs} (H : WorkI base n0 W g m p sv pv vs) (hb : Below W.heap.size W W') : WorkI base n0 W' g m p sv pv vs := ⟨H.blk.below hb, H.mat.later hb, row_below H.piv hb, H.low⟩
theorem colsL_grid {R : Nat → Nat → Rat} {r c : Nat} (hr : 0 < r) : colsL (gridL R r c) = c := by
  unfold colsL gridL
  suffices ∀ (l : List Nat) (a : Nat), a ≤ c → ((l.map fun i => (List.range c).map fun k => R i k).foldl (fun n x => max n x.length) a) = if l = [] then a else c by
    rw [this _ 0 (by omega), if_neg]
    intro h
    have := congrArg List.length h
    simp at this; omega
  intro l
  induction l with
  | nil => intro a _; simp
  | cons x l ih =>
    intro a ha
    rw [List.map_cons, List.foldl_cons, ih _ (by simp; omega)]
    simp
    intro _; omega
theorem gridL_rows (R : Nat → Nat → Rat) (r c i : Nat) (hi : i < r) : (gridL R r c).getD i [] = (List.range c).map fun k => R i k := by
  unfold gridL; rw [List.getD_eq_getElem?_getD, List.getElem?_map, List.getElem?_range hi]; rfl
theorem atM_grid (R : Nat → Nat → Rat) (r c i k : Nat) (hi : i < r) (hk : k < c) : atM (gridL R r c) i k = R i k := by
  unfold atM; rw [gridL_rows R r c i hi, List.getD_eq_getElem?_getD, List.getElem?_map, List.getElem?_range hk]; rfl
set_option maxHeartbeats 1000000 in
theorem begin_c {n0 B : Nat} {w : World} {v : Value} {m : List (List Rat)} (h : Vm n0 (rq B) w v m) (hr : m.length ≤ 1024) (hc : colsL m ≤ 1024) (hB0 : 0 < B) (hB : B ≤ 400000000) : Calls Tryz.prog 157 #[v] w fun e w' => ∃ g sv vs, e = .returned (.pointer (some ⟨g, 0, none⟩)) ∧ Below w.heap.size w w' ∧ WorkI w.heap.size n0 w' g (gridL (atM m) m.length (colsL m)) [] sv (.slice none 0 0) vs := by
  have HC := Lib.hid (cols_c h)
  have HR := Lib.hid (resize_m h m.length (colsL m) hr hc hB0 hB)
  obtain ⟨A, l, c, rfl⟩ := h.shape
  obtain rfl := h.len
  obtain ⟨cc, hcc⟩ : ∃ cc, cc = colsL m := ⟨_, rfl⟩
  rw [← hcc] at HC HR hc ⊢
  clear h hcc
  go_enter Tryz.func157, Tryz.ntmps157
  go_wp2_with (first
    | (go_at_call 156; (with_reducible refine Calls.mono HC.out ?_); rintro e w1 ⟨rfl, rfl⟩)
    | (go_at_call 129; (with_reducible refine Calls.mono HR.out ?_); rintro e w1 ⟨A', l', c', rs, rfl, hb1, hg1⟩))
  go_ret
  refine ⟨w1.heap.size, .slice A' l' c', rs.map Row1.v, rfl, bal hb1, ?_, ?_, World.ownsRow_nil _ _ _ _, hb1.size⟩
  · exact Blk.new w1 [.slice A' l' c', .slice none 0 0, .func (.func 222) #[] #[], .func (.func 223) #[] #[]] 176 rfl
  · have hok : okr (.slice none 0 0) = fun _ => True := by funext b; unfold okr; simp [Value.ownBlock]
    rw [hok]
    refine (hg1.mat (fun i => ?_)).later (bal (b0 _))
    by_cases hi : i < m.length
    · rw [gridL_rows _ _ _ _ hi]; simp; omega
    · rw [List.getD_eq_getElem?_getD, List.getElem?_eq_none (by rw [gridL_length]; omega)]; simp
end Go.Proofs.YtdkfdamihnieiaaGreat
end
section
/- Package solve, part 2: what column does. -/
open Go Go.RowKit Go.Shelf
namespace Go.Proofs.YtdkfdamihnieiaaGreat
open Go.Proofs
/-- The first row from i on, of n, that is not 0 in column k. -/
def findI (m : List (List Rat)) (k : Nat) : Nat → Nat → Option Nat
  | _, 0 => none
  | i, n + 1 => if atM m i k = 0 then findI m k (i + 1) n else some i
theorem findI_some {m : List (List Rat)} {k : Nat} : ∀ {n i a : Nat}, findI m k i n = some a → i ≤ a ∧ a < i + n ∧ atM m a k ≠ 0 := by
  intro n
  induction n with
  | zero => intro i a h; cases h
  | succ n ih =>
    intro i a h
    unfold findI at h
    split at h
    · have h2 := ih h; exact ⟨by omega, by omega, h2.2.2⟩
    · rename_i hne
      injection h with h; subst h; exact ⟨Nat.le_refl _, by omega, hne⟩
def swapR (m : List (List Rat)) (a d : Nat) : List (List Rat) := if a = d then m else (m.set a (m.getD d [])).set d (m.getD a [])
def scaleR (m : List (List Rat)) (d k : Nat) : List (List Rat) := m.set d ((m.getD d []).map fun x => (1 / atM m d k) * x)
def elimS (d k : Nat) (m : List (List Rat)) (i : Nat) : List (List Rat) := if i ≠ d ∧ atM m i k ≠ 0 then m.set i (zipq (fun x y => -(atM m i k) * x + y) (m.getD d []) (m.getD i [])) else m
def elimR (m : List (List Rat)) (d k n : Nat) : List (List Rat) := (List.range n).foldl (elimS d k) m
def colS (m : List (List Rat)) (p : List Nat) (k : Nat) : List (List Rat) × List Nat :=
  match findI m k p.length (m.length - p.length) with
  | none => (m, p)
  | some a => (elimR (scaleR (swapR m a p.length) p.length k) p.length k m.length, p ++ [k])
theorem elimR_succ (m : List (List Rat)) (d k n : Nat) : elimR m d k (n + 1) = elimS d k (elimR m d k n) n := by unfold elimR; rw [List.range_succ, List.foldl_append]; rfl
/-- All rows have length C. -/
def widthL (m : List (List Rat)) (C : Nat) : Prop := ∀ i, i < m.length → (m.getD i []).length = C
theorem getD_setL (l : List (List Rat)) (k j : Nat) (q : List Rat) : (l.set k q).getD j [] = if k = j ∧ k < l.length then q else l.getD j [] := by
  simp only [List.getD_eq_getElem?_getD, List.getElem?_set]
  by_cases h : k = j
  · subst h
    by_cases h2 : k < l.length
    · simp [h2]
    · simp [h2]
  · simp [h]
theorem widthL.set {m C} (h : widthL m C) {k : Nat} {q : List Rat} (hq : q.length = C) : widthL (m.set k q) C := by
  intro i hi
  rw [List.length_set] at hi
  rw [getD_setL]
  split
  · exact hq
  · exact h i hi
theorem swapR_length (m a d) : (swapR m a d).length = m.length := by unfold swapR; split <;> simp
theorem swapR_width {m C} (h : widthL m C) {a d : Nat} (ha : a < m.length) (hd : d < m.length) : widthL (swapR m a d) C := by
  unfold swapR
  split
  · exact h
  · exact (h.set (h d hd)).set (h a ha)
theorem scaleR_length (m d k) : (scaleR m d k).length = m.length := by unfold scaleR; simp
theorem scaleR_width {m C} (h : widthL m C) {d k : Nat} (hd : d < m.length) : widthL (scaleR m d k) C := h.set (by rw [List.length_map]; exact h d hd)
theorem elimS_length (d k m i) : (elimS d k m i).length = m.length := by unfold elimS; split <;> simp
theorem zipq_length (f : Rat → Rat → Rat) (a b : List Rat) : (zipq f a b).length = max a.length b.length := by unfold zipq; simp
theorem elimS_width {m C} (h : widthL m C) {d k i : Nat} (hd : d < m.length) (hi : i < m.length) : widthL (elimS d k m i) C := by
  unfold elimS
  split
  · exact h.set (by rw [zipq_length, h d hd, h i hi]; omega)
  · exact h
theorem elimR_length (m d k n) : (elimR m d k n).length = m.length := by
  induction n with
  | zero => rfl
  | succ n ih => rw [elimR_succ, elimS_length, ih]
theorem elimR_width {m C} (h : widthL m C) {d k : Nat} (hd : d < m.length) : ∀ n, n ≤ m.length → widthL (elimR m d k n) C := by
  intro n
  induction n with
  | zero => intro _; exact h
  | succ n ih => intro hn; rw [elimR_succ]; exact elimS_width (ih (by omega)) (by rw [elimR_length]; exact hd) (by rw [elimR_length]; omega)
/-- Every entry has at most B words. -/
def bndL (m : List (List Rat)) (B : Nat) : Prop := ∀ i k, qB (atM m i k) B
theorem bndL.mono {m B B'} (h : bndL m B) (hB : B ≤ B') : bndL m B' := fun i k => (h i k).mono hB
theorem bndL.set {m B} (h : bndL m B) {r : Nat} {q : List Rat} (hq : ∀ k, qB (q.getD k 0) B) : bndL (m.set r q) B := by
  intro i k
  unfold atM
  rw [getD_setL]
  split
  · exact hq k
  · exact h i k
theorem bndL.rows {m B} (h : bndL m B) : rowsB m B := by
  intro r hr q hq
  obtain ⟨i, hi, rfl⟩ := List.getElem_of_mem hr
  obtain ⟨k, hk, rfl⟩ := List.getElem_of_mem hq
  have := h i k
  unfold atM at this
  rw [List.getD_eq_getElem?_getD (l := m), List.getElem?_eq_getElem hi, Option.getD_some, List.getD_eq_getElem?_getD, List.getElem?_eq_getElem hk] at this
  exact this
theorem swapR_bnd {m B} (h : bndL m B) {a d : Nat} : bndL (swapR m a d) B := by
  unfold swapR
  split
  · exact h
  · exact (h.set (fun k => h d k)).set (fun k => h a k)
theorem getD_map0 (f : Rat → Rat) (hf : f 0 = 0) (l : List Rat) (k : Nat) : (l.map f).getD k 0 = f (l.getD k 0) := by
  rw [List.getD_eq_getElem?_getD, List.getD_eq_getElem?_getD, List.getElem?_map]
  cases l[k]? <;> simp [hf]
theorem zipq_getD (f : Rat → Rat → Rat) (hf : f 0 0 = 0) (a b : List Rat) (k : Nat) : (zipq f a b).getD k 0 = f (a.getD k 0) (b.getD k 0) := by
  unfold zipq
  rw [List.getD_eq_getElem?_getD, List.getElem?_map]
  by_cases hk : k < max a.length b.length
  · rw [List.getElem?_range hk]; rfl
  · rw [List.getElem?_eq_none (by simp; omega), List.getD_eq_getElem?_getD, List.getD_eq_getElem?_getD, List.getElem?_eq_none (by omega), List.getElem?_eq_none (by omega)]
    simp [hf]
theorem qB_one {B : Nat} (h : 0 < B) : qB 1 B := by
  have := qB_int (z := 1) (by omega) (by omega)
  refine ⟨?_, ?_⟩
  · have := pw_mono (show 1 ≤ B by omega); have h1 : pw 1 = 4294967296 := by decide
    show (1 : Rat).num.natAbs < _
    rw [show (1 : Rat).num.natAbs = 1 from rfl]; omega
  · have := pw_mono (show 1 ≤ B by omega); have h1 : pw 1 = 4294967296 := by decide
    rw [show (1 : Rat).den = 1 from rfl]; omega
theorem scaleR_bnd {m B} (h : bndL m B) (hB : 0 < B) {d k : Nat} : bndL (scaleR m d k) (2 * B + 1) := by
  refine (h.mono (by omega)).set (fun j => ?_)
  rw [getD_map0 _ (by grind)]
  exact (qB_mul (qB_dv (qB_one (B := 1) (by omega)) (h d k)) (h d j)).mono (by omega)
theorem elimS_bnd {m d k i A} {C : Nat} (hd : ∀ j, qB (atM m d j) C) (hi : ∀ j, qB (atM m i j) A) (j : Nat) : i ≠ d → qB (atM (elimS d k m i) i j) (2 * A + C + 1) := by
  intro hid
  unfold elimS
  split
  · unfold atM
    rw [getD_setL]
    split
    · rw [zipq_getD _ (by grind)]
      exact (qB_add (qB_mul (qB_neg (hi k)) (hd j)) (hi j)).mono (by omega)
    · exact (hi j).mono (by omega)
  · exact (hi j).mono (by omega)
theorem elimS_other {m d k i r : Nat} {M : List (List Rat)} (h : r ≠ i) : (elimS d k M i).getD r [] = M.getD r [] := by
  unfold elimS
  split
  · rw [getD_setL, if_neg (fun e => h e.1.symm)]
  · rfl
theorem elimS_self {d k : Nat} {M : List (List Rat)} : elimS d k M d = M := by unfold elimS; rw [if_neg (by simp)]
/-- Rows that have not come yet stand; those that have come are bounded. -/
theorem elimR_bnd {m d k A C} (hd : ∀ j, qB (atM m d j) C) (hA : ∀ i, i ≠ d → ∀ j, qB (atM m i j) A) (hAC : A ≤ C) : ∀ n, (∀ i, n ≤ i → (elimR m d k n).getD i [] = m.getD i []) ∧ (elimR m d k n).getD d [] = m.getD d [] ∧ bndL (elimR m d k n) (2 * A + C + 1) := by
  intro n
  induction n with
  | zero =>
    refine ⟨fun _ _ => rfl, rfl, fun i j => ?_⟩
    by_cases hi : i = d
    · subst hi; exact (hd j).mono (by omega)
    · exact (hA i hi j).mono (by omega)
  | succ n ih =>
    obtain ⟨h1, h2, h3⟩ := ih
    rw [elimR_succ]
    refine ⟨fun i hi => ?_, ?_, fun i j => ?_⟩
    · rw [elimS_other (m := 0) (by omega)]; exact h1 i (by omega)
    · by_cases hn : d = n
      · subst hn; rw [elimS_self]; exact h2
      · rw [elimS_other (m := 0) hn]; exact h2
    · by_cases hi : i = n
      · subst hi
        by_cases hid : i = d
        · subst hid; rw [elimS_self]; exact h3 i j
        · have e1 : ∀ j, atM (elimR m d k i) d j = atM m d j := fun j => by unfold atM; rw [h2]
          have e2 : ∀ j, atM (elimR m d k i) i j = atM m i j := fun j => by unfold atM; rw [h1 i (Nat.le_refl _)]
          exact elimS_bnd (fun j => by rw [e1]; exact hd j) (fun j => by rw [e2]; exact hA i hid j) j hid
      · unfold atM; rw [elimS_other (m := 0) hi]; exact h3 i j
theorem colS_length (m p k) : (colS m p k).1.length = m.length := by
  unfold colS
  split
  · rfl
  · rw [elimR_length, scaleR_length, swapR_length]
end Go.Proofs.YtdkfdamihnieiaaGreat
end
