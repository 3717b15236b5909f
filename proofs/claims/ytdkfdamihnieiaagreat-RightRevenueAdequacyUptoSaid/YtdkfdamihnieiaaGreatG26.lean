/- shift.table's closure: one addition. -/
import Derived.Test.YtdkfdamihnieiaaGreatG25
set_option linter.unusedSimpArgs false
set_option linter.unusedVariables false
section
open Go Go.RowKit Go.Shelf
namespace Go.Proofs.YtdkfdamihnieiaaGreat
open Go.Proofs
attribute [local go_sem] Oper.semAt_some wide_fn wide_depth
def addM (m : List (List Rat)) (i k : Nat) (q : Rat) : List (List Rat) := m.set i ((m.getD i []).set k (atM m i k + q))
theorem Grid.set {base : Nat} {W : World} {sv : Value} {m : List (List Rat)} {rs : List Row1} (H : Grid base W sv m rs) {i k : Nat} (hi : i < rs.length) (hk : k < (rs[i]).l.length) {y : Qx} {q : Rat} (hy : isQc (okr sv) W y.v q) :
    Grid base (st4 W (rs[i]).b (k * 4) y) sv (m.set i ((m.getD i []).set k q)) (rs.set i ⟨(rs[i]).b, (rs[i]).l.set k y⟩) := by
  have hB := H.blk i hi
  have hsl : (rs[i].l[k]).sl := isQc.slices (H.el i hi k hk)
  have hmap : (rs.set i ⟨(rs[i]).b, (rs[i]).l.set k y⟩).map Row1.v = rs.map Row1.v := by
    rw [List.map_set]
    have : Row1.v ⟨(rs[i]).b, (rs[i]).l.set k y⟩ = (rs.map Row1.v)[i]'(by simpa using hi) := by
      rw [List.getElem_map]; unfold Row1.v; simp
    rw [this, List.set_getElem_self]
  refine ⟨?_, by simp [H.len], fun j hj => ?_, fun j hj => ?_, fun j hj jj hjj => ?_, fun j hj => ?_, fun j jj hj hjj hne => ?_⟩
  · rw [hmap, List.length_set]
    unfold st4
    exact ownsRow_setCell_other (ownsRow_setCell_other (ownsRow_setCell_other (ownsRow_setCell_other H.own (fun e => own_type H.own hB (by decide) e) _) (fun e => own_type H.own hB (by decide) e) _) (fun e => own_type H.own hB (by decide) e) _) (fun e => own_type H.own hB (by decide) e) _
  · have hj2 : j < rs.length := by simpa using hj
    by_cases h : i = j
    · subst h
      simp only [List.getElem_set_self]
      exact st4_blk hB hk y
    · simp only [List.getElem_set_ne h]
      exact st4_blkNe (H.blk j hj2) (H.apart i j hi hj2 h)
  · have hj2 : j < rs.length := by simpa using hj
    rw [getD_setL]
    by_cases h : i = j
    · subst h
      rw [if_pos ⟨rfl, by have := H.len; omega⟩]
      simp only [List.getElem_set_self, List.length_set]
      exact H.rlen i hi
    · rw [if_neg (fun e => h e.1)]
      simp only [List.getElem_set_ne h]
      exact H.rlen j hj2
  · have hj2 : j < rs.length := by simpa using hj
    rw [getD_setL]
    by_cases h : i = j
    · subst h
      rw [if_pos ⟨rfl, by have := H.len; omega⟩, getD_set]
      simp only [List.getElem_set_self, List.length_set] at hjj ⊢
      by_cases h2 : k = jj
      · subst h2
        rw [if_pos ⟨rfl, by have := H.rlen i hi; omega⟩]
        simp only [List.getElem_set_self]
        exact st4_el (cqo_stable _) hB hk hsl hy
      · rw [if_neg (fun e => h2 e.1)]
        simp only [List.getElem_set_ne h2]
        exact st4_el (cqo_stable _) hB hk hsl (H.el i hi jj hjj)
    · rw [if_neg (fun e => h e.1)]
      simp only [List.getElem_set_ne h] at hjj ⊢
      exact st4_el (cqo_stable _) hB hk hsl (H.el j hj2 jj hjj)
  · have hj2 : j < rs.length := by simpa using hj
    by_cases h : i = j
    · subst h; simp only [List.getElem_set_self]; exact H.low i hi
    · simp only [List.getElem_set_ne h]; exact H.low j hj2
  · have hj2 : j < rs.length := by simpa using hj
    have hjj2 : jj < rs.length := by simpa using hjj
    have e : ∀ a (ha : a < rs.length) (ha2 : a < (rs.set i ⟨(rs[i]).b, (rs[i]).l.set k y⟩).length), ((rs.set i ⟨(rs[i]).b, (rs[i]).l.set k y⟩)[a]).b = (rs[a]).b := fun a ha ha2 => by
      by_cases h : i = a
      · subst h; simp only [List.getElem_set_self]
      · simp only [List.getElem_set_ne h]
    rw [e j hj2 hj, e jj hjj2 hjj]
    exact H.apart j jj hj2 hjj2 hne
theorem st4_belowB' {h : Nat} {w W : World} (H : Below h w W) {b o : Nat} {y : Qx} (hb : h ≤ b) : Below h w (st4 W b o y) := (((H.setCell hb _).setCell hb _).setCell hb _).setCell hb _

theorem Grid.reads {base g : Nat} {w : World} {sv : Value} {m : List (List Rat)} {rs : List Row1} (HB : Blk w g 56 [sv]) (H : Grid base w sv m rs) (i k : Nat) (hi : i < m.length) (hk : k < (m.getD i []).length) :
    ∃ (go cap bi : Nat) (en em : Bool) (p r : Option Addr × Nat × Nat), sv = .slice (some ⟨go, 0, none⟩) m.length cap ∧ bi < w.heap.size ∧ base ≤ bi ∧ go < w.heap.size ∧
      (∀ W', Below w.heap.size w W' → W'.cell? ⟨g, 0, none⟩ = some (.slice (some ⟨go, 0, none⟩) m.length cap) ∧ W'.cell? ⟨go, i, none⟩ = some (.slice (some ⟨bi, 0, none⟩) (m.getD i []).length (m.getD i []).length) ∧ W'.cell? ⟨bi, k * 4, none⟩ = some (.bool en) ∧ W'.cell? ⟨bi, k * 4 + 1, none⟩ = some (.slice p.1 p.2.1 p.2.2) ∧ W'.cell? ⟨bi, k * 4 + 2, none⟩ = some (.bool em) ∧ W'.cell? ⟨bi, k * 4 + 3, none⟩ = some (.slice r.1 r.2.1 r.2.2)) ∧
      (∀ W', Below w.heap.size w W' → ∀ j, W'.frozen? ⟨bi, j, none⟩ = false) ∧ (∀ W', Below w.heap.size w W' → cq W' (.agg #[.bool en, .slice p.1 p.2.1 p.2.2, .bool em, .slice r.1 r.2.1 r.2.2]) (atM m i k)) ∧
      (∀ W', Below w.heap.size w W' → ∀ (y : Qx) (q' : Rat), isQc (fun b => w.heap.size ≤ b) W' y.v q' → ∃ rs', Grid base (st4 W' bi (k * 4) y) sv (m.set i ((m.getD i []).set k q')) rs' ∧ rs'.map (·.b) = rs.map (·.b)) ∧ ∃ j, ∃ hj : j < rs.length, bi = (rs[j]).b := by
  have hirs : i < rs.length := by rw [H.len]; exact hi
  obtain ⟨go, cap, rfl, hgo1, hgo2⟩ := own_addr H.own (by omega)
  have hrl := H.rlen i hirs
  have hkl : k < (rs[i]).l.length := by omega
  have hel := H.el i hirs k hkl
  obtain ⟨⟨Ae, le, ce, e1⟩, Ae2, le2, ce2, e2⟩ := isQc.slices hel
  have hBi := H.blk i hirs
  have hcell := own_cell H.own (j := i) (by rw [List.length_map]; exact hirs)
  rw [List.getElem_map] at hcell
  have c := fun t (ht : t < 4) => (hBi.cell (k * 4 + t)).trans (qcs_get _ k t hkl ht)
  have x0 := c 0 (by omega)
  have x1 := c 1 (by omega)
  have x2 := c 2 (by omega)
  have x3 := c 3 (by omega)
  simp only [Qx.cs, e1, e2, List.getElem?_cons_zero, List.getElem?_cons_succ, Nat.add_zero] at x0 x1 x2 x3
  unfold Qx.v at hel
  rw [e1, e2] at hel
  unfold Row1.v at hcell
  rw [hrl] at hcell
  refine ⟨go, cap, (rs[i]).b, _, _, (Ae, le, ce), (Ae2, le2, ce2), rfl, hBi.lt, H.low i hirs, hgo2, fun W' hb => ⟨by have := (HB.below hb).cell 0; simpa using this, (hb.cell hgo2).trans hcell, (hb.cell hBi.lt).trans x0, (hb.cell hBi.lt).trans x1, (hb.cell hBi.lt).trans x2, (hb.cell hBi.lt).trans x3⟩, fun W' hb j => (hBi.below hb).frozen j, fun W' hb => isQc.any (isQc.below hel hb), fun W' hb y q' hy => ⟨_, (H.later hb).set hirs hkl (y := y) (q := q') (hy.mono (fun b _ hb e => ?_)), ?_⟩, i, hirs, rfl⟩
  · have h1 := (H.own.lt b e).2
    have h2 : w.heap.size ≤ b := hb
    omega
  · rw [List.map_set]
    have : (rs[i]).b = (rs.map (·.b))[i]'(by simpa using hirs) := by rw [List.getElem_map]
    show (rs.map (·.b)).set i (rs[i]).b = _
    rw [this, List.set_getElem_self]
set_option maxRecDepth 100000 in
set_option maxHeartbeats 4000000 in
theorem tadd_c {base B g : Nat} {w : World} {sv vq : Value} {m : List (List Rat)} {rs : List Row1} {q : Rat} {ok : Nat → Prop} (HB : Blk w g 56 [sv]) (H : Grid base w sv m rs) (i k : Nat) (hi : i < m.length) (hk : k < (m.getD i []).length) (hbig : (m.getD i []).length ≤ 1000000) (hmb : m.length ≤ 1000000) (hq : isQ ok w vq q B) (he : qB (atM m i k) B) (hB0 : 0 < B) (hB : B ≤ 400000000) (hbs : base ≤ w.heap.size) :
    Calls Tryz.prog 179 #[.int .i64 (i : Int), .int .i64 (k : Int), vq, .pointer (some ⟨g, 0, none⟩)] w fun e w' => (∃ v, e = .returned v) ∧ w.heap.size ≤ w'.heap.size ∧ Below base w w' ∧ (∀ b, b < w.heap.size → (∀ j (hj : j < rs.length), b ≠ (rs[j]).b) → w'.heap[b]? = w.heap[b]?) ∧ ∃ rs', Grid base w' sv (addM m i k q) rs' ∧ rs'.map (·.b) = rs.map (·.b) := by
  obtain ⟨go, cap, bi, en, em, p, r, rfl, hbi, hlow, hgo, hcells, hfz, hel, hset, jb, hjb, ebi⟩ := H.reads HB i k hi hk
  obtain ⟨nq, Aq, lq, cq0, mq, Dq, eq0, gq, rfl⟩ := hq.shape
  have HADD := Lib.hid (fun W' (hb : Below (w.alloc (.cells #[.bool nq, .slice Aq lq cq0, .bool mq, .slice Dq eq0 gq] 44)).heap.size (w.alloc (.cells #[.bool nq, .slice Aq lq cq0, .bool mq, .slice Dq eq0 gq] 44)) W') => add_q (cq_rq (hel W' (bthen (bal (b0 w)) hb)) he) (hq.below (bthen (bal (b0 w)) hb)) hB0 hB0 hB hB)
  have HF := Lib.hid (fun W' (hb : Below (w.alloc (.cells #[.bool nq, .slice Aq lq cq0, .bool mq, .slice Dq eq0 gq] 44)).heap.size (w.alloc (.cells #[.bool nq, .slice Aq lq cq0, .bool mq, .slice Dq eq0 gq] 44)) W') => hcells W' (bthen (bal (b0 w)) hb))
  have HZ := Lib.hid (fun W' (hb : Below (w.alloc (.cells #[.bool nq, .slice Aq lq cq0, .bool mq, .slice Dq eq0 gq] 44)).heap.size (w.alloc (.cells #[.bool nq, .slice Aq lq cq0, .bool mq, .slice Dq eq0 gq] 44)) W') => four1 ((Blk.new4 (W := w) (n := w.heap.size) (T := 44) (x := .bool nq) (y := .slice Aq lq cq0) (z := .bool mq) (u := .slice Dq eq0 gq) rfl).below hb))
  have HFZ := Lib.hid hfz
  have HSET := Lib.hid hset
  have HOUT := Lib.hid (fun b (hb : ∀ j (hj : j < rs.length), b ≠ (rs[j]).b) => (ebi ▸ hb jb hjb : b ≠ bi))
  have HADM := Lib.hid (show addM m i k q = m.set i ((m.getD i []).set k (atM m i k + q)) from rfl)
  obtain ⟨L, hL⟩ : ∃ L, L = (m.getD i []).length := ⟨_, rfl⟩
  obtain ⟨N, hN⟩ : ∃ N, N = m.length := ⟨_, rfl⟩
  obtain ⟨e0, he0⟩ : ∃ e0, e0 = atM m i k := ⟨_, rfl⟩
  rw [← hL] at HF hk hbig
  rw [← hN] at HF HSET hi hmb ⊢
  rw [← he0] at HADD HADM
  clear hel hcells hfz hset ebi he H HB hq hL hN he0
  go_enter Tryz.func179, Tryz.ntmps179
  go_wp2
  refine (wpIn_wide (n := 10)).1 ?_
  refine wpIn_region_Y (by kernel_rfl) (by kernel_rfl) 14 2 rfl (by kernel_rfl) (fun u => { tmps := #[.int .i64 (i : Int), .int .i64 (k : Int), .agg #[.bool nq, .slice Aq lq cq0, .bool mq, .slice Dq eq0 gq], .pointer (some ⟨g, 0, none⟩), undef, undef, .pointer (some ⟨w.heap.size, 0, none⟩), u 0, u 1, u 2, u 3, u 4, u 5, u 6, u 7, u 8, u 9, u 10, u 11, u 12, u 13, undef], defers := [] }) (fun _ => undef) rfl (fun W1 W2 => Below W1.heap.size W1 W2) (fun _ => Below.refl _ _) (fun h1 h2 => bthen h1 h2)
    (fun j9 v W1 => match j9 with
      | 0 => v = Value.slice (some ⟨go, 0, none⟩) N cap
      | 1 => v = Value.int .i64 (i : Int)
      | 2 => v = Value.pointer (some ⟨go, i, none⟩)
      | 3 => v = Value.slice (some ⟨bi, 0, none⟩) L L
      | 4 => v = Value.int .i64 (k : Int)
      | 5 => v = Value.slice (some ⟨go, 0, none⟩) N cap
      | 6 => v = Value.int .i64 (i : Int)
      | 7 => v = Value.pointer (some ⟨go, i, none⟩)
      | 8 => v = Value.slice (some ⟨bi, 0, none⟩) L L
      | 9 => v = Value.int .i64 (k : Int)
      | 10 => v = Value.pointer (some ⟨bi, k * 4, none⟩)
      | 11 => v = Value.agg #[.bool en, .slice p.1 p.2.1 p.2.2, .bool em, .slice r.1 r.2.1 r.2.2]
      | 12 => v = Value.agg #[.bool nq, .slice Aq lq cq0, .bool mq, .slice Dq eq0 gq]
      | 13 => ∃ p : Qx, v = p.v ∧ isQc (fun b => w.heap.size ≤ b) W1 p.v (e0 + q)
      | _ => True) ?hY ?step ?fin
  case hY =>
    intro k v W1 W2 h hb
    match k, h with
    | 0, h => exact h
    | 1, h => exact h
    | 2, h => exact h
    | 3, h => exact h
    | 4, h => exact h
    | 5, h => exact h
    | 6, h => exact h
    | 7, h => exact h
    | 8, h => exact h
    | 9, h => exact h
    | 10, h => exact h
    | 11, h => exact h
    | 12, h => exact h
    | 13, ⟨p, e, h⟩ => exact ⟨p, e, isQc.below h hb⟩
    | k + 14, h => trivial
  case step =>
    intro u W' j o hj ho hR hpre
    have hbw : Below (w.alloc (.cells #[.bool nq, .slice Aq lq cq0, .bool mq, .slice Dq eq0 gq] 44)).heap.size (w.alloc (.cells #[.bool nq, .slice Aq lq cq0, .bool mq, .slice Dq eq0 gq] 44)) W' := bthen (bdr (b0 (w.alloc (.cells #[.bool nq, .slice Aq lq cq0, .bool mq, .slice Dq eq0 gq] 44)))) hR
    obtain ⟨f0, f1, f2, f3, f4, f5⟩ := HF.out _ hbw
    obtain ⟨z0, z1, z2, z3⟩ := HZ.out _ hbw
    obtain rfl | rfl | rfl | rfl | rfl | rfl | rfl | rfl | rfl | rfl | rfl | rfl | rfl | rfl : j = 0 ∨ j = 1 ∨ j = 2 ∨ j = 3 ∨ j = 4 ∨ j = 5 ∨ j = 6 ∨ j = 7 ∨ j = 8 ∨ j = 9 ∨ j = 10 ∨ j = 11 ∨ j = 12 ∨ j = 13 := by omega
    · simp at ho
      subst ho
      simp [Region.binds] at hpre
      refine wpOpIn_step rfl (fun K' hK => ?_)
      simp only [Region.wanted]
      have HK := Lib.hid hK
      clear hK
      gi_wp2
      exact HK.out _ _ ⟨Value.slice (some ⟨go, 0, none⟩) N cap, by simp [upd, undef, *], Below.refl _ _, rfl⟩
    · simp at ho
      subst ho
      simp [Region.binds] at hpre
      refine wpOpIn_step rfl (fun K' hK => ?_)
      simp only [Region.wanted]
      have HK := Lib.hid hK
      clear hK
      gi_wp2
      exact HK.out _ _ ⟨Value.int .i64 (i : Int), by simp [upd, undef, *], Below.refl _ _, rfl⟩
    · simp at ho
      subst ho
      simp [Region.binds] at hpre
      refine wpOpIn_step rfl (fun K' hK => ?_)
      simp only [Region.wanted]
      have HK := Lib.hid hK
      clear hK
      gi_wp2
      exact HK.out _ _ ⟨Value.pointer (some ⟨go, i, none⟩), by simp [upd, undef, *], Below.refl _ _, rfl⟩
    · simp at ho
      subst ho
      simp [Region.binds] at hpre
      refine wpOpIn_step rfl (fun K' hK => ?_)
      simp only [Region.wanted]
      have HK := Lib.hid hK
      clear hK
      gi_wp2
      exact HK.out _ _ ⟨Value.slice (some ⟨bi, 0, none⟩) L L, by simp [upd, undef, *], Below.refl _ _, rfl⟩
    · simp at ho
      subst ho
      simp [Region.binds] at hpre
      refine wpOpIn_step rfl (fun K' hK => ?_)
      simp only [Region.wanted]
      have HK := Lib.hid hK
      clear hK
      gi_wp2
      exact HK.out _ _ ⟨Value.int .i64 (k : Int), by simp [upd, undef, *], Below.refl _ _, rfl⟩
    · simp at ho
      subst ho
      simp [Region.binds] at hpre
      refine wpOpIn_step rfl (fun K' hK => ?_)
      simp only [Region.wanted]
      have HK := Lib.hid hK
      clear hK
      gi_wp2
      exact HK.out _ _ ⟨Value.slice (some ⟨go, 0, none⟩) N cap, by simp [upd, undef, *], Below.refl _ _, rfl⟩
    · simp at ho
      subst ho
      simp [Region.binds] at hpre
      refine wpOpIn_step rfl (fun K' hK => ?_)
      simp only [Region.wanted]
      have HK := Lib.hid hK
      clear hK
      gi_wp2
      exact HK.out _ _ ⟨Value.int .i64 (i : Int), by simp [upd, undef, *], Below.refl _ _, rfl⟩
    · simp at ho
      subst ho
      simp [Region.binds] at hpre
      refine wpOpIn_step rfl (fun K' hK => ?_)
      simp only [Region.wanted]
      have HK := Lib.hid hK
      clear hK
      gi_wp2
      exact HK.out _ _ ⟨Value.pointer (some ⟨go, i, none⟩), by simp [upd, undef, *], Below.refl _ _, rfl⟩
    · simp at ho
      subst ho
      simp [Region.binds] at hpre
      refine wpOpIn_step rfl (fun K' hK => ?_)
      simp only [Region.wanted]
      have HK := Lib.hid hK
      clear hK
      gi_wp2
      exact HK.out _ _ ⟨Value.slice (some ⟨bi, 0, none⟩) L L, by simp [upd, undef, *], Below.refl _ _, rfl⟩
    · simp at ho
      subst ho
      simp [Region.binds] at hpre
      refine wpOpIn_step rfl (fun K' hK => ?_)
      simp only [Region.wanted]
      have HK := Lib.hid hK
      clear hK
      gi_wp2
      exact HK.out _ _ ⟨Value.int .i64 (k : Int), by simp [upd, undef, *], Below.refl _ _, rfl⟩
    · simp at ho
      subst ho
      simp [Region.binds] at hpre
      refine wpOpIn_step rfl (fun K' hK => ?_)
      simp only [Region.wanted]
      have HK := Lib.hid hK
      clear hK
      gi_wp2
      exact HK.out _ _ ⟨Value.pointer (some ⟨bi, k * 4, none⟩), by simp [upd, undef, *], Below.refl _ _, rfl⟩
    · simp at ho
      subst ho
      simp [Region.binds] at hpre
      refine wpOpIn_step rfl (fun K' hK => ?_)
      simp only [Region.wanted]
      have HK := Lib.hid hK
      clear hK
      gi_wp2
      exact HK.out _ _ ⟨Value.agg #[.bool en, .slice p.1 p.2.1 p.2.2, .bool em, .slice r.1 r.2.1 r.2.2], by simp [upd, undef, *], Below.refl _ _, rfl⟩
    · simp at ho
      subst ho
      simp [Region.binds] at hpre
      refine wpOpIn_step rfl (fun K' hK => ?_)
      simp only [Region.wanted]
      have HK := Lib.hid hK
      clear hK
      gi_wp2
      exact HK.out _ _ ⟨Value.agg #[.bool nq, .slice Aq lq cq0, .bool mq, .slice Dq eq0 gq], by simp [upd, undef, *], Below.refl _ _, rfl⟩
    · simp at ho
      subst ho
      simp [Region.binds] at hpre
      obtain ⟨h3', h4'⟩ := hpre
      refine wpOpIn_step rfl (fun K' hK => ?_)
      simp only [Region.wanted]
      have HK := Lib.hid hK
      clear hK
      gi_wp2_with (gi_at_call 29; (with_reducible refine CallsIn.mono (callsIn_wide.2 (HADD.out _ hbw)) ?_); rintro e w1 ⟨n3, A3, l3, c3, m3, D3, e3, g3, rfl, hb1, hr1⟩)
      refine HK.out _ _ ⟨(.agg #[.bool n3, .slice A3 l3 c3, .bool m3, .slice D3 e3 g3]), by simp [upd, undef, Qx.v, Qx.zero, *], hb1, ⟨⟨n3, .slice A3 l3 c3, m3, .slice D3 e3 g3⟩, rfl, hr1.mono (fun b _ hk => Nat.le_trans (bthen (bal (b0 w)) hbw).size hk)⟩⟩
  case fin =>
    intro u W' hR hY
    have hbw : Below (w.alloc (.cells #[.bool nq, .slice Aq lq cq0, .bool mq, .slice Dq eq0 gq] 44)).heap.size (w.alloc (.cells #[.bool nq, .slice Aq lq cq0, .bool mq, .slice Dq eq0 gq] 44)) W' := bthen (bdr (b0 (w.alloc (.cells #[.bool nq, .slice Aq lq cq0, .bool mq, .slice Dq eq0 gq] 44)))) hR
    have g3 : u 3 = Value.slice (some ⟨bi, 0, none⟩) L L := hY 3 (by omega)
    have g4 : u 4 = Value.int .i64 (k : Int) := hY 4 (by omega)
    obtain ⟨⟨n3, s3, m3, t3⟩, g13, hv⟩ := hY 13 (by omega)
    obtain ⟨⟨A3, l3, c3, e3⟩, D3, e4, c4, e5⟩ := isQc.slices hv
    simp only at e3 e5
    subst e3 e5
    simp only [Qx.v] at g13
    have hbw2 := bthen (bal (b0 w)) hbw
    obtain ⟨f0, f1, f2, f3, f4, f5⟩ := HF.out _ hbw
    have hfz := HFZ.out W' hbw2
    obtain ⟨rs', hg', hm'⟩ := HSET.out W' hbw2 ⟨n3, .slice A3 l3 c3, m3, .slice D3 e4 c4⟩ _ hv
    rw [← HADM.out] at hg'
    have HG' := Lib.hid hg'
    have HM' := Lib.hid hm'
    have HBW2 := Lib.hid hbw2
    have hbi2 : bi < W'.heap.size := Nat.lt_of_lt_of_le hbi hbw2.size
    clear hv hY hR hbw hbw2 hg' hm'
    refine wpTail_step (i' := 15) (c := 1) rfl ?_
    rw [g3, g4, g13]
    refine wpOpIn_step rfl (fun K' hK => ?_)
    simp only [Region.wanted, List.getElem_toArray, List.getElem_cons_succ, List.getElem_cons_zero]
    have HK := Lib.hid hK
    clear hK
    gi_wp2
    refine HK.out _ _ ?_
    clear HK
    refine wpTail_step (i' := 16) (c := 0) rfl ?_
    refine wpOpIn_step rfl (fun K' hK => ?_)
    simp only [Region.wanted, List.getElem_toArray, List.getElem_cons_succ, List.getElem_cons_zero]
    have HK := Lib.hid hK
    clear hK
    gi_wp2
    refine HK.out _ _ (wpTail_end ?_)
    clear HK
    go_wp2
    go_end0
    refine ⟨⟨_, rfl⟩, ?_, st4_belowB' (HBW2.out.mono hbs) (y := ⟨n3, .slice A3 l3 c3, m3, .slice D3 e4 c4⟩) hlow, fun b hb hne => ?_, rs', HG'.out, HM'.out⟩
    · have := HBW2.out.size; simpa [World.setCell] using this
    · have hnb := HOUT.out b hne
      exact (Below.heap_setCell _ _ _ _ hnb).trans ((Below.heap_setCell _ _ _ _ hnb).trans ((Below.heap_setCell _ _ _ _ hnb).trans ((Below.heap_setCell _ _ _ _ hnb).trans (HBW2.out.block b hb))))

end Go.Proofs.YtdkfdamihnieiaaGreat
end
section
/- shift.table, its words. -/
open Go Go.RowKit Go.Shelf
namespace Go.Proofs.YtdkfdamihnieiaaGreat
open Go.Proofs
/-- What lies at or beyond g, and below base, is as it was. -/
structure KG (base g : Nat) (A B : World) : Prop where
  size : A.heap.size ≤ B.heap.size
  below : Below base A B
  same : ∀ b, g ≤ b → b < A.heap.size → B.heap[b]? = A.heap[b]?
theorem KG.refl {base g : Nat} (A : World) : KG base g A A := ⟨Nat.le_refl _, Below.refl _ _, fun _ _ _ => rfl⟩
theorem KG.trans {base g : Nat} {A B C : World} (h : KG base g A B) (k : KG base g B C) : KG base g A C := ⟨Nat.le_trans h.size k.size, h.below.trans k.below, fun b h1 h2 => (k.same b h1 (Nat.lt_of_lt_of_le h2 h.size)).trans (h.same b h1 h2)⟩
theorem KG.of {base g : Nat} {A B : World} (h : Below A.heap.size A B) (hb : base ≤ A.heap.size) : KG base g A B := ⟨h.size, h.mono hb, fun b _ h2 => h.block b h2⟩
theorem KG.blk {base g : Nat} {A B : World} (h : KG base g A B) {b T cs} (hB : Blk A b T cs) (hg : g ≤ b) : Blk B b T cs := (h.same b hg hB.lt).trans hB
theorem Rd.same {ok : Nat → Prop} {w w' : World} {A c ws} (h : Rd ok w A c ws) (hs : ∀ b, ok b → b < w.heap.size → w'.heap[b]? = w.heap[b]?) : Rd ok w' A c ws := by
  refine ⟨h.cap, h.lim, h.okw, fun h0 => ?_⟩
  obtain ⟨b, o, hA, hok, hc⟩ := h.cells h0
  exact ⟨b, o, hA, hok, fun j hj => (World.cell?_of_block (w := w) (a := ⟨b, o + j, none⟩) (hs b hok (World.block_lt_of_cell? w ⟨b, o + j, none⟩ (hc j hj)))).trans (hc j hj)⟩
theorem isQc.same {ok : Nat → Prop} {w w' : World} {v q} (h : isQc ok w v q) (hs : ∀ b, ok b → b < w.heap.size → w'.heap[b]? = w.heap[b]?) : isQc ok w' v q := by
  obtain ⟨n, s, m, t, B, e, ⟨s1, e1, ⟨A1, c1, x1, h1⟩, h2⟩, ⟨s2, e2, ⟨A2, c2, x2, h3⟩, h4⟩⟩ := h
  exact ⟨n, s, m, t, B, e, ⟨s1, e1, ⟨A1, c1, x1, h1.same hs⟩, h2⟩, ⟨s2, e2, ⟨A2, c2, x2, h3.same hs⟩, h4⟩⟩
theorem KG.qc {base g : Nat} {A B : World} (h : KG base g A B) {v q} (hq : isQc (fun b => g ≤ b) A v q) : isQc (fun b => g ≤ b) B v q := hq.same (fun b h1 h2 => h.same b h1 h2)
/-- The matrix under additions. -/
structure TabI (base g : Nat) (sv : Value) (bs : List Nat) (W : World) (M : List (List Rat)) : Prop where
  ex : ∃ rs, Grid base W sv M rs ∧ rs.map (·.b) = bs
  box : Blk W g 56 [sv]
  low : ∀ b ∈ bs, b < g
  lo2 : base ≤ g
theorem TabI.later {base g sv bs W W' M} (H : TabI base g sv bs W M) (hb : Below W.heap.size W W') : TabI base g sv bs W' M := by
  obtain ⟨rs, h1, h2⟩ := H.ex
  exact ⟨⟨rs, h1.later hb, h2⟩, H.box.below hb, H.low, H.lo2⟩
theorem TabI.add {base g B : Nat} {sv vq : Value} {bs : List Nat} {w : World} {M : List (List Rat)} {q : Rat} {ok : Nat → Prop} (H : TabI base g sv bs w M) (i k n : Nat) (hn : n ≤ 1000) (hi : i < n) (hk : k < n) (hm : M.length = n) (hw : widthL M n) (hq : isQ ok w vq q B) (he : bndL M B) (hB0 : 0 < B) (hB : B ≤ 400000000) :
    Calls Tryz.prog 179 #[.int .i64 (i : Int), .int .i64 (k : Int), vq, .pointer (some ⟨g, 0, none⟩)] w fun e w' => (∃ v, e = .returned v) ∧ KG base g w w' ∧ TabI base g sv bs w' (addM M i k q) := by
  obtain ⟨rs, hg, hbs⟩ := H.ex
  have hwi := hw i (by omega)
  refine (tadd_c H.box hg i k (by omega) (by omega) (by omega) (by omega) hq (he i k) hB0 hB (by have := H.box.lt; have := H.lo2; omega)).mono ?_
  rintro e w' ⟨hv, hsz, hbl, hsame, rs', hg', hbs'⟩
  have hnot : ∀ b, g ≤ b → ∀ j (hj : j < rs.length), b ≠ (rs[j]).b := fun b hgb j hj e => by
    have := H.low b (by rw [← hbs, e]; exact List.mem_map_of_mem (List.getElem_mem hj))
    omega
  exact ⟨hv, ⟨hsz, hbl, fun b h1 h2 => hsame b h2 (hnot b h1)⟩, ⟨rs', hg', hbs'.trans hbs⟩, (hsame g H.box.lt (hnot g (Nat.le_refl _))).trans H.box, H.low, H.lo2⟩
theorem addM_length (m i k q) : (addM m i k q).length = m.length := by unfold addM; simp
theorem addM_width {m : List (List Rat)} {C i k : Nat} {q : Rat} (h : widthL m C) (hi : i < m.length) : widthL (addM m i k q) C := h.set (by rw [List.length_set]; exact h i hi)
theorem addM_bnd {m : List (List Rat)} {B C i k : Nat} {q : Rat} (h : bndL m B) (hq : qB q C) : bndL (addM m i k q) (B + C + 1) := by
  refine (h.mono (by omega)).set (fun j => ?_)
  rw [getD_set]
  split
  · exact qB_add (h i k) hq
  · exact (h i j).mono (by omega)
/-- A line in the Laplacian. -/
def byQ (l : Ln) : Rat := ((1 : Int) : Rat) / (l.x : Rat)
def lapS (m : List (List Rat)) (l : Ln) : List (List Rat) :=
  addM (addM (addM (addM m l.f.toNat l.f.toNat (byQ l)) l.t.toNat l.t.toNat (byQ l)) l.f.toNat l.t.toNat (-byQ l)) l.t.toNat l.f.toNat (-byQ l)
def lapM (n : Nat) (ls : List Ln) : List (List Rat) := ls.foldl lapS (gridL (atM []) n n)
def tableS (n : Nat) (rs : List Nat) (ls : List Ln) : List (List Rat) := rs.foldl (fun m b => m.set b (unitL n b)) (lapM n ls)
/-- A line within n buses. -/
def lnIn (n : Nat) (l : Ln) : Prop := 0 ≤ l.f ∧ l.f < n ∧ 0 ≤ l.t ∧ l.t < n ∧ 1 ≤ l.x ∧ l.x ≤ 1000
theorem byQ_qB {l : Ln} (h1 : 1 ≤ l.x) (h2 : l.x ≤ 1000) : qB (byQ l) 4 :=
  qB_dv (qB_int (by omega) (by omega)) (qB_int (by omega) (by omega))
theorem lapS_ok {m : List (List Rat)} {n B : Nat} {l : Ln} (hm : m.length = n) (hw : widthL m n) (hb : bndL m B) (hl : lnIn n l) : (lapS m l).length = n ∧ widthL (lapS m l) n ∧ bndL (lapS m l) (B + 20) := by
  obtain ⟨h1, h2, h3, h4, h5, h6⟩ := hl
  have hq := byQ_qB h5 h6
  have hq' := qB_neg hq
  unfold lapS
  refine ⟨by simp only [addM_length]; exact hm, ?_, (addM_bnd (addM_bnd (addM_bnd (addM_bnd hb hq) hq) hq') hq').mono (by omega)⟩
  exact addM_width (addM_width (addM_width (addM_width hw (by omega)) (by rw [addM_length]; omega)) (by simp only [addM_length]; omega)) (by simp only [addM_length]; omega)
theorem lapM_ok (n : Nat) : ∀ (ls : List Ln), (∀ l ∈ ls, lnIn n l) → (lapM n ls).length = n ∧ widthL (lapM n ls) n ∧ bndL (lapM n ls) (20 * ls.length + 1) := by
  intro ls hls
  unfold lapM
  suffices ∀ (B : Nat) (m : List (List Rat)), m.length = n → widthL m n → bndL m B → (ls.foldl lapS m).length = n ∧ widthL (ls.foldl lapS m) n ∧ bndL (ls.foldl lapS m) (20 * ls.length + B) by
    exact this 1 _ (gridL_length _ _ _) (grid_width _ _ _) (grid_bnd (fun i k => by unfold atM; simp; exact qB_zero (by omega)) (by omega))
  induction ls with
  | nil => intro B m h1 h2 h3; exact ⟨h1, h2, by simpa using h3⟩
  | cons l r ih =>
    intro B m h1 h2 h3
    obtain ⟨a1, a2, a3⟩ := lapS_ok h1 h2 h3 (hls l (by simp))
    obtain ⟨b1, b2, b3⟩ := ih (fun l hl => hls l (by simp [hl])) (B + 20) _ a1 a2 a3
    exact ⟨b1, b2, b3.mono (by simp; omega)⟩
end Go.Proofs.YtdkfdamihnieiaaGreat
end
