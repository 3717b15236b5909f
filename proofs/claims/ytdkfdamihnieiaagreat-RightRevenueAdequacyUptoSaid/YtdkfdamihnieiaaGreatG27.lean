/- shift.table. -/
import Derived.Test.YtdkfdamihnieiaaGreatG26
set_option linter.unusedSimpArgs false
set_option linter.unusedVariables false
section
open Go Go.RowKit Go.Shelf
namespace Go.Proofs.YtdkfdamihnieiaaGreat
open Go.Proofs
attribute [local go_sem] Oper.semAt_some wide_fn wide_depth
/-- Within a round: the line's box, its value's box. -/
structure RndI (base g : Nat) (sv : Value) (bs : List Nat) (W2 : World) (p10 p11 : Nat) (x : Ln) (bn bm : Bool) (p r : Option Addr × Nat × Nat) (q : Rat) (W : World) (M : List (List Rat)) : Prop where
  tab : TabI base g sv bs W M
  kg : KG base g W2 W
  b10 : Blk W p10 68 [.int .i64 x.f, .int .i64 x.t, .int .i64 x.x, .int .i64 x.c]
  b11 : Blk W p11 44 [.bool bn, .slice p.1 p.2.1 p.2.2, .bool bm, .slice r.1 r.2.1 r.2.2]
  qc : isQc (fun b => g ≤ b) W (.agg #[.bool bn, .slice p.1 p.2.1 p.2.2, .bool bm, .slice r.1 r.2.1 r.2.2]) q
  l10 : g ≤ p10
  l11 : g ≤ p11
theorem RndI.later {base g sv bs W2 p10 p11 x bn bm p r q W W' M} (H : RndI base g sv bs W2 p10 p11 x bn bm p r q W M) (hb : Below W.heap.size W W') : RndI base g sv bs W2 p10 p11 x bn bm p r q W' M :=
  ⟨H.tab.later hb, H.kg.trans (KG.of hb (by have := H.tab.box.lt; have := H.tab.lo2; omega)), H.b10.below hb, H.b11.below hb, isQc.below H.qc hb, H.l10, H.l11⟩
theorem RndI.step {base g sv bs W2 p10 p11 x bn bm p r q W W' M M'} (H : RndI base g sv bs W2 p10 p11 x bn bm p r q W M) (hk : KG base g W W') (ht : TabI base g sv bs W' M') : RndI base g sv bs W2 p10 p11 x bn bm p r q W' M' :=
  ⟨ht, H.kg.trans hk, hk.blk H.b10 H.l10, hk.blk H.b11 H.l11, hk.qc H.qc, H.l10, H.l11⟩
theorem RndI.cells {base g sv bs W2 p10 p11 x bn bm p r q W M} (H : RndI base g sv bs W2 p10 p11 x bn bm p r q W M) : W.cell? ⟨p10, 0, none⟩ = some (.int .i64 x.f) ∧ W.cell? ⟨p10, 1, none⟩ = some (.int .i64 x.t) ∧ W.cell? ⟨p11, 0, none⟩ = some (.bool bn) ∧ W.cell? ⟨p11, 1, none⟩ = some (.slice p.1 p.2.1 p.2.2) ∧ W.cell? ⟨p11, 2, none⟩ = some (.bool bm) ∧ W.cell? ⟨p11, 3, none⟩ = some (.slice r.1 r.2.1 r.2.2) :=
  ⟨H.b10.cell 0, H.b10.cell 1, H.b11.cell 0, H.b11.cell 1, H.b11.cell 2, H.b11.cell 3⟩
theorem RndI.add {base g sv bs W2 p10 p11 x bn bm p r q W M} (H : RndI base g sv bs W2 p10 p11 x bn bm p r q W M) {vq : Value} {q' : Rat} {ok : Nat → Prop} (i k n : Nat) (hn : n ≤ 1000) (hi : i < n) (hk : k < n) (hm : M.length = n) (hw : widthL M n) (hq : isQ ok W vq q' 1000) (he : bndL M 1000) :
    Calls Tryz.prog 179 #[.int .i64 (i : Int), .int .i64 (k : Int), vq, .pointer (some ⟨g, 0, none⟩)] W fun e w' => (∃ v, e = .returned v) ∧ RndI base g sv bs W2 p10 p11 x bn bm p r q w' (addM M i k q') :=
  (H.tab.add i k n hn hi hk hm hw hq he (by omega) (by omega)).mono (fun e w' ⟨hv, hk, ht⟩ => ⟨hv, H.step hk ht⟩)
/-- The table, its rows being set. -/
structure TabJ (w : World) (base n0 g go n cap : Nat) (W : World) (M : List (List Rat)) : Prop where
  box : Blk W g 56 [.slice (some ⟨go, 0, none⟩) n cap]
  mat : ∃ vs, MatO (fun _ => True) base n0 W (.slice (some ⟨go, 0, none⟩) n cap) vs M
  below : Below w.heap.size w W
  len : M.length = n
  ne : go ≠ g
  nb : W.cell? ⟨w.heap.size, 0, none⟩ = some (.int .i64 (n : Int))
  hb : w.heap.size < base
theorem TabJ.later {w base n0 g go n cap W W' M} (H : TabJ w base n0 g go n cap W M) (hb : Below W.heap.size W W') : TabJ w base n0 g go n cap W' M := by
  obtain ⟨vs, hm⟩ := H.mat
  exact ⟨H.box.below hb, ⟨vs, hm.later hb⟩, bthen H.below hb, H.len, H.ne, (hb.cell (World.block_lt_of_cell? W _ H.nb)).trans H.nb, H.hb⟩
theorem own_lo {W : World} {base n n' cap gr : Nat} {e : TypeId} {size : Nat} {xs : List Value} (H : W.ownsRow base e size (.slice (some ⟨gr, 0, none⟩) n' cap) n xs) : base ≤ gr ∧ gr < W.heap.size := H.lt gr rfl
theorem TabJ.lt {w base n0 g go n cap W M} (H : TabJ w base n0 g go n cap W M) : base ≤ go ∧ go < W.heap.size := by
  obtain ⟨vs, hm⟩ := H.mat
  exact own_lo hm.own
theorem TabJ.cell {w base n0 g go n cap W M} (H : TabJ w base n0 g go n cap W M) {b : Nat} (hb : b < n) : ∃ u, W.cell? ⟨go, b, none⟩ = some u := by
  obtain ⟨vs, hm⟩ := H.mat
  have := hm.len
  exact ⟨_, own_cell hm.own (j := b) (by rw [this, H.len]; exact hb)⟩
theorem TabJ.frz {w base n0 g go n cap W M} (H : TabJ w base n0 g go n cap W M) (b : Nat) : W.frozen? ⟨go, b, none⟩ = false := by
  obtain ⟨vs, hm⟩ := H.mat
  exact own_frozen hm.own b
theorem TabJ.put {w base n0 g go n cap W M} (H : TabJ w base n0 g go n cap W M) (hn : n0 ≤ base) {b : Nat} (hb : b < n) {A : Option Addr} {l c : Nat} {q : List Rat} (hv : Vq n0 cq W (.slice A l c) q) : TabJ w base n0 g go n cap (W.setCell ⟨go, b, none⟩ (.slice A l c)) (M.set b q) := by
  have hlt := H.lt
  have hb2 := H.hb
  have hne : w.heap.size ≠ go := by omega
  obtain ⟨vs, hm⟩ := H.mat
  refine ⟨H.box.setNe _ H.ne, ⟨_, hm.setRow hn (by rw [hm.len, H.len]; exact hb) hv⟩, H.below.setCell (by simp; omega) _, by rw [List.length_set]; exact H.len, H.ne, ?_, H.hb⟩
  exact (World.cell?_of_block (w := W) (a := ⟨w.heap.size, 0, none⟩) (Below.heap_setCell _ _ _ _ hne)).trans H.nb
set_option maxRecDepth 100000 in
set_option maxHeartbeats 4000000 in
theorem table_c {n0 : Nat} {w : World} {n : Nat} {v vr vl : Value} {rs : List Nat} {ms : List Ln} (hv : ∃ A l c, v = .slice A l c) (hn1 : 1 ≤ n) (hn6 : n ≤ 6) (hr : Vi w vr (intsL rs)) (hrn : ∀ r ∈ rs, r < n) (hl : Vl w vl ms) (hms : ∀ l ∈ ms, lnIn n l) (hml : ms.length ≤ 10) (hn0 : n0 ≤ w.heap.size) :
    Calls Tryz.prog 106 #[.agg #[.int .i64 (n : Int), v], vr, vl] w fun e w' => ∃ A l c, e = .returned (.slice A l c) ∧ Below w.heap.size w w' ∧ Vm n0 cq w' (.slice A l c) (tableS n rs ms) := by
  obtain ⟨A1, l1, c1, rfl⟩ := hv
  have HR := Lib.hid hr
  have HL := Lib.hid hl
  obtain ⟨A2, l2, c2, rfl⟩ := hr.shape
  obtain ⟨A3, l3, c3, rfl⟩ := hl.shape
  have e2 := hr.len
  have e3 := hl.len
  rw [intsL_length] at e2
  subst e2 e3
  have hrl := hr.lim
  rw [intsL_length] at hrl
  have HMS := Lib.hid hms
  have HRN := Lib.hid hrn
  have HRS := Lib.hid (resize_m (n0 := n0) (B := 1) (w := w.alloc (.cells #[.int .i64 (n : Int), .slice A1 l1 c1] 24)) (v := .slice none 0 0) (m := []) (Vm.nil (by unfold maxLen; omega)) n n (by omega) (by omega) (by omega) (by omega))
  clear hr hl hms hrn
  go_enter Tryz.func106, Tryz.ntmps106
  go_wp2_with (go_at_call 129; (with_reducible refine Calls.mono HRS.out ?_); rintro e w1 ⟨A, l, c, rws, rfl, hb1, hg1⟩; have HB1 := Lib.hid hb1; have HG1 := Lib.hid hg1; have s1 := hb1.size; clear hb1 hg1)
  have hbase : (w.alloc (.cells #[.int .i64 (n : Int), .slice A1 l1 c1] 24)).heap.size = w.heap.size + 1 := by simp
  rw [hbase] at HG1 s1
  have HB1' : Hid (Below (w.heap.size + 1) (w.alloc (.cells #[.int .i64 (n : Int), .slice A1 l1 c1] 24)) w1) := Lib.hid (by have := HB1.out; rw [hbase] at this; exact this)
  obtain ⟨W2, hW2⟩ : ∃ W2, W2 = w1.alloc (Obj.cells #[.slice A l c] 56) := ⟨_, rfl⟩
  rw [← hW2]
  have HT0 := Lib.hid (show TabI (w.heap.size + 1) w1.heap.size (.slice A l c) (rws.map (·.b)) W2 (lapM n []) from by
    rw [hW2]
    refine ⟨⟨rws, HG1.out.later (bal (b0 _)), rfl⟩, Blk.new w1 [.slice A l c] 56 rfl, fun b hb => ?_, s1⟩
    obtain ⟨r, hr, rfl⟩ := List.mem_map.1 hb
    obtain ⟨j, hj, rfl⟩ := List.getElem_of_mem hr
    exact (HG1.out.blk j hj).lt)
  have HW2 := Lib.hid (show Below w.heap.size w W2 from by rw [hW2]; exact bal ((bal (b0 w)).trans (HB1'.out.mono (by omega))))
  have HNB := Lib.hid (show W2.cell? ⟨w.heap.size, 0, none⟩ = some (.int .i64 (n : Int)) from by
    have h1 : (w.alloc (.cells #[.int .i64 (n : Int), .slice A1 l1 c1] 24)).cell? ⟨w.heap.size, 0, none⟩ = some (.int .i64 (n : Int)) := by rw [World.cell?_alloc_new]; rfl
    have h2 := (HB1'.out.cell (p := ⟨w.heap.size, 0, none⟩) (by simp)).trans h1
    rw [hW2]
    exact ((bal (b0 w1)).cell (World.block_lt_of_cell? w1 _ h2)).trans h2)
  have hz2 : W2.heap.size = w1.heap.size + 1 := by rw [hW2]; simp
  obtain ⟨bs, hbs⟩ : ∃ bs, bs = rws.map (·.b) := ⟨_, rfl⟩
  rw [← hbs] at HT0
  obtain ⟨g, hg⟩ : ∃ g, g = w1.heap.size := ⟨_, rfl⟩
  rw [← hg] at HT0 hz2 s1 ⊢
  clear HB1 HB1' hbase HG1 HRS hW2 hbs hg
  go_loopg [23] ms.length (fun gh iv wr => ∃ k : Nat, gh = ms.length - k ∧ k ≤ ms.length ∧ iv = .int .i64 (k : Int) ∧ Hid (TabI (w.heap.size + 1) g (.slice A l c) bs wr (lapM n (ms.take k))) ∧ Hid (KG (w.heap.size + 1) g W2 wr))
  case atStart => exact ⟨0, rfl, by omega, rfl, HT0, Lib.hid (KG.refl _)⟩
  case round =>
    obtain ⟨k, rfl, hk, rfl, HT, HK⟩ := hrel
    obtain ⟨wo, rfl⟩ : ∃ wo : World, wo = wr := ⟨_, rfl⟩
    by_cases hlt : k < ms.length
    · have hbo : Below w.heap.size w wo := HW2.out.trans (HK.out.below.mono (by omega))
      obtain ⟨bl, ol, hA, hc⟩ := (HL.out.below hbo).at (by omega)
      subst hA
      obtain ⟨d0, d1, d2, d3⟩ := hc k hlt
      have hmem : ms.getD k Ln.zero ∈ ms := by rw [List.getD_eq_getElem?_getD, List.getElem?_eq_getElem hlt]; exact List.getElem_mem hlt
      have hjn : lapM n (ms.take (k + 1)) = lapS (lapM n (ms.take k)) (ms.getD k Ln.zero) := by
        unfold lapM
        rw [List.take_succ_eq_append_getElem hlt, List.foldl_append, List.getD_eq_getElem?_getD, List.getElem?_eq_getElem hlt]; rfl
      have hok := lapM_ok n (ms.take k) (fun l hl => HMS.out l (List.mem_of_mem_take hl))
      rw [List.length_take] at hok
      obtain ⟨x, hx⟩ : ∃ x, x = ms.getD k Ln.zero := ⟨_, rfl⟩
      rw [← hx] at d0 d1 d2 d3 hmem hjn
      obtain ⟨M, hM⟩ : ∃ M, M = lapM n (ms.take k) := ⟨_, rfl⟩
      rw [← hM] at hjn hok HT
      obtain ⟨f0, fb, t0, tb, x0, xb⟩ := HMS.out x hmem
      obtain ⟨xf, xt, xx, xc⟩ := x
      simp only at f0 fb t0 tb x0 xb d0 d1 d2 d3
      obtain ⟨f, rfl⟩ := Int.eq_ofNat_of_zero_le f0
      obtain ⟨u0, rfl⟩ := Int.eq_ofNat_of_zero_le t0
      have hbl : bl < wo.heap.size := World.block_lt_of_cell? wo _ d0
      have hgo : g < wo.heap.size := HT.out.box.lt
      have hq4 := byQ_qB (l := ⟨(f : Int), (u0 : Int), xx, xc⟩) x0 xb
      obtain ⟨by0, hby⟩ : ∃ by0, by0 = byQ ⟨(f : Int), (u0 : Int), xx, xc⟩ := ⟨_, rfl⟩
      have hbyq : ((1 : Int) : Rat) / (xx : Rat) = by0 := hby.symm
      have hlap : lapS M ⟨(f : Int), (u0 : Int), xx, xc⟩ = addM (addM (addM (addM M f f by0) u0 u0 by0) f u0 (-by0)) u0 f (-by0) := by rw [hby]; rfl
      rw [hlap] at hjn
      rw [← hby] at hq4
      have hq4' := qB_neg hq4
      obtain ⟨hm0, hm1, hm2⟩ := hok
      have hfn : f < n := by omega
      have hun : u0 < n := by omega
      have HM1 := Lib.hid (show M.length = n ∧ widthL M n ∧ bndL M 1000 from ⟨hm0, hm1, hm2.mono (by omega)⟩)
      have a1 := addM_bnd (i := f) (k := f) hm2 hq4
      have w1' := addM_width (q := by0) (k := f) hm1 (show f < M.length by omega)
      have HM2 := Lib.hid (show (addM M f f by0).length = n ∧ widthL (addM M f f by0) n ∧ bndL (addM M f f by0) 1000 from ⟨by rw [addM_length]; exact hm0, w1', a1.mono (by omega)⟩)
      have a2 := addM_bnd (i := u0) (k := u0) a1 hq4
      have w2' := addM_width (q := by0) (i := u0) (k := u0) w1' (by rw [addM_length]; omega)
      have HM3 := Lib.hid (show (addM (addM M f f by0) u0 u0 by0).length = n ∧ widthL (addM (addM M f f by0) u0 u0 by0) n ∧ bndL (addM (addM M f f by0) u0 u0 by0) 1000 from ⟨by simp only [addM_length]; exact hm0, w2', a2.mono (by omega)⟩)
      have a3 := addM_bnd (i := f) (k := u0) a2 hq4'
      have w3' := addM_width (q := -by0) (i := f) (k := u0) w2' (by simp only [addM_length]; omega)
      have HM4 := Lib.hid (show (addM (addM (addM M f f by0) u0 u0 by0) f u0 (-by0)).length = n ∧ widthL (addM (addM (addM M f f by0) u0 u0 by0) f u0 (-by0)) n ∧ bndL (addM (addM (addM M f f by0) u0 u0 by0) f u0 (-by0)) 1000 from ⟨by simp only [addM_length]; exact hm0, w3', a3.mono (by omega)⟩)
      have HJN := Lib.hid hjn
      have HQ4 := Lib.hid (show qB by0 1000 ∧ qB (-by0) 1000 from ⟨hq4.mono (by omega), hq4'.mono (by omega)⟩)
      have HNW := Lib.hid (new_q (w := wo.alloc (.cells #[.int .i64 (f : Int), .int .i64 (u0 : Int), .int .i64 xx, .int .i64 xc] 68)) 1 xx (by omega) (by omega) (by omega) (by omega) (by omega))
      rw [hbyq] at HNW
      clear hc hx hM hby hjn hlap hbyq hq4 hq4' hm0 hm1 hm2 a1 a2 a3 w1' w2' w3' hmem hbo
      go_wp2_with (first
        | (go_at_call 131; (with_reducible refine Calls.mono HNW.out ?_); rintro e w2 ⟨n3, A4, l4, c4, m3, D4, e4, g4, rfl, hb2, hr2⟩; have B2 := Bx.step (Bx.refl (n := wo.heap.size + 1) (wo.alloc (Obj.cells #[.int .i64 (f : Int), .int .i64 (u0 : Int), .int .i64 xx, .int .i64 xc] 68)) (by simp)) hb2; have k2 := B2.cell; have f2 := B2.frozen; have s2 := B2.s; have s2' : wo.heap.size < w2.heap.size := (by omega); have HS1 := Lib.hid (show RndI (w.heap.size + 1) g (.slice A l c) bs W2 wo.heap.size w2.heap.size ⟨(f : Int), (u0 : Int), xx, xc⟩ n3 m3 (A4, l4, c4) (D4, e4, g4) by0 (w2.alloc (.cells #[.bool n3, .slice A4 l4 c4, .bool m3, .slice D4 e4 g4] 44)) M from ⟨HT.out.later (bal ((bal (b0 wo)).trans (hb2.mono (by simp)))), HK.out.trans (KG.of (bal ((bal (b0 wo)).trans (hb2.mono (by simp)))) (by omega)), ((Blk.new wo [.int .i64 (f : Int), .int .i64 (u0 : Int), .int .i64 xx, .int .i64 xc] 68 rfl).below hb2).al, Blk.new w2 [.bool n3, .slice A4 l4 c4, .bool m3, .slice D4 e4 g4] 44 rfl, isQc.al (hr2.mono (fun b _ hb => by unfold fresh at hb; simp at hb; omega)), by omega, by omega⟩); have HC1 := Lib.hid (HS1.out.add f f n (by omega) hfn hfn HM1.out.1 HM1.out.2.1 (isQc.q HS1.out.qc HQ4.out.1) HM1.out.2.2); clear hb2 hr2)
        | (go_at_call 179; (with_reducible refine Calls.mono HC1.out ?_); rintro e w3 ⟨⟨v3, rfl⟩, hs3⟩; have HS2 := Lib.hid hs3; have HC2 := Lib.hid (HS2.out.add u0 u0 n (by omega) hun hun HM2.out.1 HM2.out.2.1 (isQc.q HS2.out.qc HQ4.out.1) HM2.out.2.2); obtain ⟨y0, y1, y2, y3, y4, y5⟩ := HS2.out.cells; clear hs3)
        | (go_at_call 179; (with_reducible refine Calls.mono HC2.out ?_); rintro e w4 ⟨⟨v4, rfl⟩, hs4⟩; have HS3 := Lib.hid hs4; clear hs4 y0 y1 y2 y3 y4 y5))
      refine (wpIn_wide (n := 10)).1 ?_
      refine wpIn_region_Y (by kernel_rfl) (by kernel_rfl) 7 1 rfl (by kernel_rfl) (fun u => { tmps := List.toArray ((Value.agg #[Value.int IntKind.i64 ↑n, Value.slice A1 l1 c1]) :: (Value.slice A2 rs.length c2) :: (Value.slice (some { block := bl, off := ol }) ms.length c3) :: (Value.pointer (some { block := w.heap.size, off := 0 })) :: undef :: undef :: (Value.slice none 0 0) :: (Value.pointer (some { block := g, off := 0 })) :: (Value.func (Fn.func 179) #[] #[Value.pointer (some { block := g, off := 0 })]) :: undef :: (Value.pointer (some { block := wo.heap.size, off := 0 })) :: (Value.pointer (some { block := w2.heap.size, off := 0 })) :: (Value.int IntKind.i64 0) :: undef :: undef :: (Value.pointer (some { block := w.heap.size, off := 0 })) :: (Value.int IntKind.i64 ↑n) :: (Value.pointer (some { block := w.heap.size, off := 0 })) :: (Value.int IntKind.i64 ↑n) :: (Value.slice A l c) :: (Value.func (Fn.func 179) #[] #[Value.pointer (some { block := g, off := 0 })]) :: (Value.slice (some { block := bl, off := ol }) ms.length c3) :: (Value.int IntKind.i64 ↑ms.length) :: (Value.int IntKind.i64 ↑k) :: (Value.bool true) :: (Value.pointer (some { block := bl, off := ol + k * 4 })) :: (Value.agg #[Value.int IntKind.i64 ↑f, Value.int IntKind.i64 ↑u0, Value.int IntKind.i64 xx, Value.int IntKind.i64 xc]) :: (Value.tuple #[Value.agg #[Value.bool n3, Value.slice A4 l4 c4, Value.bool m3, Value.slice D4 e4 g4], Value.int IntKind.i64 0]) :: (Value.pointer (some { block := wo.heap.size, off := 2 })) :: (Value.int IntKind.i64 xx) :: (Value.tuple #[Value.agg #[Value.bool n3, Value.slice A4 l4 c4, Value.bool m3, Value.slice D4 e4 g4], Value.int IntKind.i64 0]) :: (Value.agg #[Value.bool n3, Value.slice A4 l4 c4, Value.bool m3, Value.slice D4 e4 g4]) :: (Value.int IntKind.i64 0) :: (Value.func (Fn.func 179) #[] #[Value.pointer (some { block := g, off := 0 })]) :: (Value.pointer (some { block := wo.heap.size, off := 0 })) :: (Value.int IntKind.i64 ↑f) :: (Value.pointer (some { block := wo.heap.size, off := 0 })) :: (Value.int IntKind.i64 ↑f) :: (Value.agg #[Value.bool n3, Value.slice A4 l4 c4, Value.bool m3, Value.slice D4 e4 g4]) :: v3 :: (Value.func (Fn.func 179) #[] #[Value.pointer (some { block := g, off := 0 })]) :: (Value.pointer (some { block := wo.heap.size, off := 1 })) :: (Value.int IntKind.i64 ↑u0) :: (Value.pointer (some { block := wo.heap.size, off := 1 })) :: (Value.int IntKind.i64 ↑u0) :: (Value.agg #[Value.bool n3, Value.slice A4 l4 c4, Value.bool m3, Value.slice D4 e4 g4]) :: v4 :: (u 0) :: (u 1) :: (u 2) :: (u 3) :: (u 4) :: (u 5) :: (u 6) :: u54 :: u55 :: u56 :: u57 :: u58 :: u59 :: u60 :: u61 :: u62 :: u63 :: undef :: undef :: undef :: undef :: undef :: undef :: undef :: undef :: undef :: undef :: undef :: undef :: undef :: undef :: undef :: []), defers := [] }) (fun k => #[u47, u48, u49, u50, u51, u52, u53].getD k undef) rfl (fun W1 W2 => Below W1.heap.size W1 W2) (fun _ => Below.refl _ _) (fun h1 h2 => bthen h1 h2)
        (fun j9 v W1 => match j9 with
          | 0 => v = Value.func (.func 179) #[] #[.pointer (some ⟨g, 0, none⟩)]
          | 1 => v = Value.pointer (some ⟨wo.heap.size, 0, none⟩)
          | 2 => v = Value.int .i64 (f : Int)
          | 3 => v = Value.pointer (some ⟨wo.heap.size, 1, none⟩)
          | 4 => v = Value.int .i64 (u0 : Int)
          | 5 => v = Value.agg #[.bool n3, .slice A4 l4 c4, .bool m3, .slice D4 e4 g4]
          | 6 => ∃ p : Qx, v = p.v ∧ isQc (fun b => w4.heap.size ≤ b) W1 p.v (-by0)
          | _ => True) ?hY ?step ?fin
      case hY =>
        intro k v W1 W2 h hb
        match k, h with
        | 0, h => exact h
        | 1, h => exact h
        | 2, h => exact h
        | 3, h => exact h
        | 4, h => exact h
        | 5, h => exact h
        | 6, ⟨p, e, h⟩ => exact ⟨p, e, isQc.below h hb⟩
        | k + 7, h => trivial
      case step =>
        intro u W' j o hj ho hR hpre
        have hbw : Below w4.heap.size w4 W' := bthen (bdr (b0 w4)) hR
        obtain ⟨y0, y1, y2, y3, y4, y5⟩ := (HS3.out.later hbw).cells
        obtain rfl | rfl | rfl | rfl | rfl | rfl | rfl : j = 0 ∨ j = 1 ∨ j = 2 ∨ j = 3 ∨ j = 4 ∨ j = 5 ∨ j = 6 := by omega
        · simp at ho
          subst ho
          simp [Region.binds] at hpre
          refine wpOpIn_step rfl (fun K' hK => ?_)
          simp only [Region.wanted]
          have HK := Lib.hid hK
          clear hK
          gi_wp2
          exact HK.out _ _ ⟨Value.func (.func 179) #[] #[.pointer (some ⟨g, 0, none⟩)], by simp [upd, undef, *], Below.refl _ _, rfl⟩
        · simp at ho
          subst ho
          simp [Region.binds] at hpre
          refine wpOpIn_step rfl (fun K' hK => ?_)
          simp only [Region.wanted]
          have HK := Lib.hid hK
          clear hK
          gi_wp2
          exact HK.out _ _ ⟨Value.pointer (some ⟨wo.heap.size, 0, none⟩), by simp [upd, undef, *], Below.refl _ _, rfl⟩
        · simp at ho
          subst ho
          simp [Region.binds] at hpre
          refine wpOpIn_step rfl (fun K' hK => ?_)
          simp only [Region.wanted]
          have HK := Lib.hid hK
          clear hK
          gi_wp2
          exact HK.out _ _ ⟨Value.int .i64 (f : Int), by simp [upd, undef, *], Below.refl _ _, rfl⟩
        · simp at ho
          subst ho
          simp [Region.binds] at hpre
          refine wpOpIn_step rfl (fun K' hK => ?_)
          simp only [Region.wanted]
          have HK := Lib.hid hK
          clear hK
          gi_wp2
          exact HK.out _ _ ⟨Value.pointer (some ⟨wo.heap.size, 1, none⟩), by simp [upd, undef, *], Below.refl _ _, rfl⟩
        · simp at ho
          subst ho
          simp [Region.binds] at hpre
          refine wpOpIn_step rfl (fun K' hK => ?_)
          simp only [Region.wanted]
          have HK := Lib.hid hK
          clear hK
          gi_wp2
          exact HK.out _ _ ⟨Value.int .i64 (u0 : Int), by simp [upd, undef, *], Below.refl _ _, rfl⟩
        · simp at ho
          subst ho
          simp [Region.binds] at hpre
          refine wpOpIn_step rfl (fun K' hK => ?_)
          simp only [Region.wanted]
          have HK := Lib.hid hK
          clear hK
          gi_wp2
          exact HK.out _ _ ⟨Value.agg #[.bool n3, .slice A4 l4 c4, .bool m3, .slice D4 e4 g4], by simp [upd, undef, *], Below.refl _ _, rfl⟩
        · simp at ho
          subst ho
          simp [Region.binds] at hpre
          refine wpOpIn_step rfl (fun K' hK => ?_)
          simp only [Region.wanted]
          have HK := Lib.hid hK
          clear hK
          gi_wp2_with (gi_at_call 67; (with_reducible refine CallsIn.mono (callsIn_wide.2 (neg_q (isQc.q (HS3.out.later hbw).qc HQ4.out.1) (by omega) (by omega))) ?_); rintro e w1 ⟨n5, A5, l5, c5, m5, D5, e5, g5, rfl, hb1, hr1⟩)
          refine HK.out _ _ ⟨(.agg #[.bool n5, .slice A5 l5 c5, .bool m5, .slice D5 e5 g5]), by simp [upd, undef, Qx.v, Qx.zero, *], hb1, ⟨⟨n5, .slice A5 l5 c5, m5, .slice D5 e5 g5⟩, rfl, hr1.mono (fun b _ hk => Nat.le_trans hbw.size hk)⟩⟩
      case fin =>
        intro u W' hR hY
        have hbw : Below w4.heap.size w4 W' := bthen (bdr (b0 w4)) hR
        have q0 : u 0 = Value.func (.func 179) #[] #[.pointer (some ⟨g, 0, none⟩)] := hY 0 (by omega)
        have q1 : u 1 = Value.pointer (some ⟨wo.heap.size, 0, none⟩) := hY 1 (by omega)
        have q2 : u 2 = Value.int .i64 (f : Int) := hY 2 (by omega)
        have q3 : u 3 = Value.pointer (some ⟨wo.heap.size, 1, none⟩) := hY 3 (by omega)
        have q4 : u 4 = Value.int .i64 (u0 : Int) := hY 4 (by omega)
        have q5 : u 5 = Value.agg #[.bool n3, .slice A4 l4 c4, .bool m3, .slice D4 e4 g4] := hY 5 (by omega)
        obtain ⟨⟨n5, s5, m5, t5⟩, q6, hv⟩ := hY 6 (by omega)
        obtain ⟨⟨A5, l5, c5, e1⟩, D5, e5, g5, e2⟩ := isQc.slices hv
        simp only at e1 e2
        subst e1 e2
        simp only [Qx.v] at q6 hv
        have HC3 := Lib.hid ((HS3.out.later hbw).add f u0 n (by omega) hfn hun HM3.out.1 HM3.out.2.1 (isQc.q hv HQ4.out.2) HM3.out.2.2)
        clear hv hY hR hbw
        refine wpTail_step (i' := 8) (c := 0) rfl ?_
        rw [q0, q1, q2, q3, q4, q5, q6]
        clear q0 q1 q2 q3 q4 q5 q6
        refine wpOpIn_step rfl (fun K' hK => ?_)
        simp only [Region.wanted, List.getElem_toArray, List.getElem_cons_succ, List.getElem_cons_zero]
        have HK := Lib.hid hK
        clear hK
        gi_wp2_with (gi_at_call 179; (with_reducible refine CallsIn.mono (callsIn_wide.2 HC3.out) ?_); rintro e w5 ⟨⟨v5, rfl⟩, hs5⟩)
        refine HK.out _ _ (wpTail_end ?_)
        clear HK
        have HS5 := Lib.hid hs5
        clear HC3 hs5 u W'
        go_wp2
        refine (wpIn_wide (n := 10)).1 ?_
        refine wpIn_region_Y (by kernel_rfl) (by kernel_rfl) 7 1 rfl (by kernel_rfl) (fun u => { tmps := List.toArray ((Value.agg #[Value.int IntKind.i64 ↑n, Value.slice A1 l1 c1]) :: (Value.slice A2 rs.length c2) :: (Value.slice (some { block := bl, off := ol }) ms.length c3) :: (Value.pointer (some { block := w.heap.size, off := 0 })) :: undef :: undef :: (Value.slice none 0 0) :: (Value.pointer (some { block := g, off := 0 })) :: (Value.func (Fn.func 179) #[] #[Value.pointer (some { block := g, off := 0 })]) :: undef :: (Value.pointer (some { block := wo.heap.size, off := 0 })) :: (Value.pointer (some { block := w2.heap.size, off := 0 })) :: (Value.int IntKind.i64 0) :: undef :: undef :: (Value.pointer (some { block := w.heap.size, off := 0 })) :: (Value.int IntKind.i64 ↑n) :: (Value.pointer (some { block := w.heap.size, off := 0 })) :: (Value.int IntKind.i64 ↑n) :: (Value.slice A l c) :: (Value.func (Fn.func 179) #[] #[Value.pointer (some { block := g, off := 0 })]) :: (Value.slice (some { block := bl, off := ol }) ms.length c3) :: (Value.int IntKind.i64 ↑ms.length) :: (Value.int IntKind.i64 ↑k) :: (Value.bool true) :: (Value.pointer (some { block := bl, off := ol + k * 4 })) :: (Value.agg #[Value.int IntKind.i64 ↑f, Value.int IntKind.i64 ↑u0, Value.int IntKind.i64 xx, Value.int IntKind.i64 xc]) :: (Value.tuple #[Value.agg #[Value.bool n3, Value.slice A4 l4 c4, Value.bool m3, Value.slice D4 e4 g4], Value.int IntKind.i64 0]) :: (Value.pointer (some { block := wo.heap.size, off := 2 })) :: (Value.int IntKind.i64 xx) :: (Value.tuple #[Value.agg #[Value.bool n3, Value.slice A4 l4 c4, Value.bool m3, Value.slice D4 e4 g4], Value.int IntKind.i64 0]) :: (Value.agg #[Value.bool n3, Value.slice A4 l4 c4, Value.bool m3, Value.slice D4 e4 g4]) :: (Value.int IntKind.i64 0) :: (Value.func (Fn.func 179) #[] #[Value.pointer (some { block := g, off := 0 })]) :: (Value.pointer (some { block := wo.heap.size, off := 0 })) :: (Value.int IntKind.i64 ↑f) :: (Value.pointer (some { block := wo.heap.size, off := 0 })) :: (Value.int IntKind.i64 ↑f) :: (Value.agg #[Value.bool n3, Value.slice A4 l4 c4, Value.bool m3, Value.slice D4 e4 g4]) :: v3 :: (Value.func (Fn.func 179) #[] #[Value.pointer (some { block := g, off := 0 })]) :: (Value.pointer (some { block := wo.heap.size, off := 1 })) :: (Value.int IntKind.i64 ↑u0) :: (Value.pointer (some { block := wo.heap.size, off := 1 })) :: (Value.int IntKind.i64 ↑u0) :: (Value.agg #[Value.bool n3, Value.slice A4 l4 c4, Value.bool m3, Value.slice D4 e4 g4]) :: v4 :: (Value.func (Fn.func 179) #[] #[Value.pointer (some { block := g, off := 0 })]) :: (Value.pointer (some { block := wo.heap.size, off := 0 })) :: (Value.int IntKind.i64 ↑f) :: (Value.pointer (some { block := wo.heap.size, off := 1 })) :: (Value.int IntKind.i64 ↑u0) :: (Value.agg #[Value.bool n3, Value.slice A4 l4 c4, Value.bool m3, Value.slice D4 e4 g4]) :: (Value.agg #[Value.bool n5, Value.slice A5 l5 c5, Value.bool m5, Value.slice D5 e5 g5]) :: v5 :: (u 0) :: (u 1) :: (u 2) :: (u 3) :: (u 4) :: (u 5) :: (u 6) :: u62 :: u63 :: undef :: undef :: undef :: undef :: undef :: undef :: undef :: undef :: undef :: undef :: undef :: undef :: undef :: undef :: undef :: []), defers := [] }) (fun k => #[u55, u56, u57, u58, u59, u60, u61].getD k undef) rfl (fun W1 W2 => Below W1.heap.size W1 W2) (fun _ => Below.refl _ _) (fun h1 h2 => bthen h1 h2)
          (fun j9 v W1 => match j9 with
            | 0 => v = Value.func (.func 179) #[] #[.pointer (some ⟨g, 0, none⟩)]
            | 1 => v = Value.pointer (some ⟨wo.heap.size, 1, none⟩)
            | 2 => v = Value.int .i64 (u0 : Int)
            | 3 => v = Value.pointer (some ⟨wo.heap.size, 0, none⟩)
            | 4 => v = Value.int .i64 (f : Int)
            | 5 => v = Value.agg #[.bool n3, .slice A4 l4 c4, .bool m3, .slice D4 e4 g4]
            | 6 => ∃ p : Qx, v = p.v ∧ isQc (fun b => w5.heap.size ≤ b) W1 p.v (-by0)
            | _ => True) ?hY ?step ?fin
        case hY =>
          intro k v W1 W2 h hb
          match k, h with
          | 0, h => exact h
          | 1, h => exact h
          | 2, h => exact h
          | 3, h => exact h
          | 4, h => exact h
          | 5, h => exact h
          | 6, ⟨p, e, h⟩ => exact ⟨p, e, isQc.below h hb⟩
          | k + 7, h => trivial
        case step =>
          intro u W' j o hj ho hR hpre
          have hbw : Below w5.heap.size w5 W' := bthen (bdr (b0 w5)) hR
          obtain ⟨y0, y1, y2, y3, y4, y5⟩ := (HS5.out.later hbw).cells
          obtain rfl | rfl | rfl | rfl | rfl | rfl | rfl : j = 0 ∨ j = 1 ∨ j = 2 ∨ j = 3 ∨ j = 4 ∨ j = 5 ∨ j = 6 := by omega
          · simp at ho
            subst ho
            simp [Region.binds] at hpre
            refine wpOpIn_step rfl (fun K' hK => ?_)
            simp only [Region.wanted]
            have HK := Lib.hid hK
            clear hK
            gi_wp2
            exact HK.out _ _ ⟨Value.func (.func 179) #[] #[.pointer (some ⟨g, 0, none⟩)], by simp [upd, undef, *], Below.refl _ _, rfl⟩
          · simp at ho
            subst ho
            simp [Region.binds] at hpre
            refine wpOpIn_step rfl (fun K' hK => ?_)
            simp only [Region.wanted]
            have HK := Lib.hid hK
            clear hK
            gi_wp2
            exact HK.out _ _ ⟨Value.pointer (some ⟨wo.heap.size, 1, none⟩), by simp [upd, undef, *], Below.refl _ _, rfl⟩
          · simp at ho
            subst ho
            simp [Region.binds] at hpre
            refine wpOpIn_step rfl (fun K' hK => ?_)
            simp only [Region.wanted]
            have HK := Lib.hid hK
            clear hK
            gi_wp2
            exact HK.out _ _ ⟨Value.int .i64 (u0 : Int), by simp [upd, undef, *], Below.refl _ _, rfl⟩
          · simp at ho
            subst ho
            simp [Region.binds] at hpre
            refine wpOpIn_step rfl (fun K' hK => ?_)
            simp only [Region.wanted]
            have HK := Lib.hid hK
            clear hK
            gi_wp2
            exact HK.out _ _ ⟨Value.pointer (some ⟨wo.heap.size, 0, none⟩), by simp [upd, undef, *], Below.refl _ _, rfl⟩
          · simp at ho
            subst ho
            simp [Region.binds] at hpre
            refine wpOpIn_step rfl (fun K' hK => ?_)
            simp only [Region.wanted]
            have HK := Lib.hid hK
            clear hK
            gi_wp2
            exact HK.out _ _ ⟨Value.int .i64 (f : Int), by simp [upd, undef, *], Below.refl _ _, rfl⟩
          · simp at ho
            subst ho
            simp [Region.binds] at hpre
            refine wpOpIn_step rfl (fun K' hK => ?_)
            simp only [Region.wanted]
            have HK := Lib.hid hK
            clear hK
            gi_wp2
            exact HK.out _ _ ⟨Value.agg #[.bool n3, .slice A4 l4 c4, .bool m3, .slice D4 e4 g4], by simp [upd, undef, *], Below.refl _ _, rfl⟩
          · simp at ho
            subst ho
            simp [Region.binds] at hpre
            refine wpOpIn_step rfl (fun K' hK => ?_)
            simp only [Region.wanted]
            have HK := Lib.hid hK
            clear hK
            gi_wp2_with (gi_at_call 67; (with_reducible refine CallsIn.mono (callsIn_wide.2 (neg_q (isQc.q (HS5.out.later hbw).qc HQ4.out.1) (by omega) (by omega))) ?_); rintro e w1 ⟨n5, A5, l5, c5, m5, D5, e5, g5, rfl, hb1, hr1⟩)
            refine HK.out _ _ ⟨(.agg #[.bool n5, .slice A5 l5 c5, .bool m5, .slice D5 e5 g5]), by simp [upd, undef, Qx.v, Qx.zero, *], hb1, ⟨⟨n5, .slice A5 l5 c5, m5, .slice D5 e5 g5⟩, rfl, hr1.mono (fun b _ hk => Nat.le_trans hbw.size hk)⟩⟩
        case fin =>
          intro u W' hR hY
          have hbw : Below w5.heap.size w5 W' := bthen (bdr (b0 w5)) hR
          have q0 : u 0 = Value.func (.func 179) #[] #[.pointer (some ⟨g, 0, none⟩)] := hY 0 (by omega)
          have q1 : u 1 = Value.pointer (some ⟨wo.heap.size, 1, none⟩) := hY 1 (by omega)
          have q2 : u 2 = Value.int .i64 (u0 : Int) := hY 2 (by omega)
          have q3 : u 3 = Value.pointer (some ⟨wo.heap.size, 0, none⟩) := hY 3 (by omega)
          have q4 : u 4 = Value.int .i64 (f : Int) := hY 4 (by omega)
          have q5 : u 5 = Value.agg #[.bool n3, .slice A4 l4 c4, .bool m3, .slice D4 e4 g4] := hY 5 (by omega)
          obtain ⟨⟨n6, s6, m6, t6⟩, q6, hv⟩ := hY 6 (by omega)
          obtain ⟨⟨A6, l6, c6, e1⟩, D6, e6, g6, e2⟩ := isQc.slices hv
          simp only at e1 e2
          subst e1 e2
          simp only [Qx.v] at q6 hv
          have HC4 := Lib.hid ((HS5.out.later hbw).add u0 f n (by omega) hun hfn HM4.out.1 HM4.out.2.1 (isQc.q hv HQ4.out.2) HM4.out.2.2)
          clear hv hY hR hbw
          refine wpTail_step (i' := 8) (c := 0) rfl ?_
          rw [q0, q1, q2, q3, q4, q5, q6]
          clear q0 q1 q2 q3 q4 q5 q6
          refine wpOpIn_step rfl (fun K' hK => ?_)
          simp only [Region.wanted, List.getElem_toArray, List.getElem_cons_succ, List.getElem_cons_zero]
          have HK := Lib.hid hK
          clear hK
          gi_wp2_with (gi_at_call 179; (with_reducible refine CallsIn.mono (callsIn_wide.2 HC4.out) ?_); rintro e w6 ⟨⟨v6, rfl⟩, hs6⟩)
          refine HK.out _ _ (wpTail_end ?_)
          clear HK
          have HS6 := Lib.hid hs6
          clear HC4 hs6 u W'
          go_wp2
          go_roundg (ms.length - (k + 1))
          case rel => exact ⟨k + 1, rfl, by omega, val_int (by omega), Lib.hid (by rw [HJN.out]; exact HS6.out.tab), Lib.hid HS6.out.kg⟩
          case measure => omega
    · obtain rfl : k = ms.length := by omega
      have hT := HT.out
      rw [List.take_length] at hT
      obtain ⟨rws2, hg2, hbs2⟩ := hT.ex
      have hlp := lapM_ok n ms HMS.out
      have hgm := hg2.mat (n0 := n0) (fun i => by
        by_cases hi : i < (lapM n ms).length
        · rw [hlp.2.1 i hi]; omega
        · rw [List.getD_eq_getElem?_getD, List.getElem?_eq_none (by omega)]; simp)
      obtain ⟨go, cap, esv, hgo1, hgo2⟩ := own_addr hg2.own (by omega)
      injection esv with e1 e2 e3
      subst e1 e2 e3
      have hbw : Below w.heap.size w wo := HW2.out.trans (HK.out.below.mono (by omega))
      rw [hlp.1] at hT hg2 hgm
      have HJ0 := Lib.hid (show TabJ w (w.heap.size + 1) n0 g go n c wo (lapM n ms) from ⟨hT.box, ⟨_, hgm⟩, hbw, hlp.1, by have := own_type hg2.own hT.box (by decide); intro e; subst e; exact this rfl, (HK.out.below.cell (p := ⟨w.heap.size, 0, none⟩) (by simp)).trans HNB.out, by omega⟩)
      have HLP := Lib.hid hlp.1
      have hn0g : n0 ≤ w.heap.size + 1 := by omega
      clear hT rws2 hg2 hbs2 hlp hgm hbw HT
      go_wp2
      go_loopg [66] rs.length (fun gh iv wr => ∃ k : Nat, gh = rs.length - k ∧ k ≤ rs.length ∧ iv = .int .i64 (k : Int) ∧ Hid (TabJ w (w.heap.size + 1) n0 g go n c wr ((rs.take k).foldl (fun m b => m.set b (unitL n b)) (lapM n ms))))
      case atStart => exact ⟨0, rfl, by omega, rfl, HJ0⟩
      case round =>
        obtain ⟨k, rfl, hk, rfl, HTB⟩ := hrel
        obtain ⟨wq, rfl⟩ : ∃ wq : World, wq = wr := ⟨_, rfl⟩
        have hgo2 := HTB.out.lt.2
        have hgl := HTB.out.box.lt
        by_cases hlt : k < rs.length
        · obtain ⟨bl, ol, hA, hc⟩ := (HR.out.below HTB.out.below).at (by rw [intsL_length]; omega)
          subst hA
          have d0 := hc k (by rw [intsL_length]; exact hlt)
          rw [intsL_get] at d0
          have hbl : bl < wq.heap.size := World.block_lt_of_cell? wq _ d0
          have hmem : rs.getD k 0 ∈ rs := by rw [List.getD_eq_getElem?_getD, List.getElem?_eq_getElem hlt]; exact List.getElem_mem hlt
          have hjn : (rs.take (k + 1)).foldl (fun m b => m.set b (unitL n b)) (lapM n ms) = ((rs.take k).foldl (fun m b => m.set b (unitL n b)) (lapM n ms)).set (rs.getD k 0) (unitL n (rs.getD k 0)) := by
            rw [List.take_succ_eq_append_getElem hlt, List.foldl_append, List.getD_eq_getElem?_getD, List.getElem?_eq_getElem hlt]; rfl
          obtain ⟨b, hb⟩ : ∃ b, b = rs.getD k 0 := ⟨_, rfl⟩
          rw [← hb] at d0 hmem hjn
          have hbn := HRN.out b hmem
          obtain ⟨M, hM⟩ : ∃ M, M = (rs.take k).foldl (fun m b => m.set b (unitL n b)) (lapM n ms) := ⟨_, rfl⟩
          rw [← hM] at hjn HTB
          have HJN := Lib.hid hjn
          have HN0 := Lib.hid (fun W' (h : Below wq.heap.size wq W') => (show W'.cell? ⟨w.heap.size, 0, none⟩ = some (.int .i64 (n : Int)) from (HTB.out.later h).nb))
          clear hc hmem hjn hb hM
          go_wp2
          refine (wpIn_wide (n := 10)).1 ?_
          refine wpIn_region_Y (by kernel_rfl) (by kernel_rfl) 6 2 rfl (by kernel_rfl) (fun u => { tmps := List.toArray ((Value.agg #[Value.int IntKind.i64 ↑n, Value.slice A1 l1 c1]) :: (Value.slice (some { block := bl, off := ol }) rs.length c2) :: (Value.slice A3 ms.length c3) :: (Value.pointer (some { block := w.heap.size, off := 0 })) :: undef :: undef :: (Value.slice none 0 0) :: (Value.pointer (some { block := g, off := 0 })) :: (Value.func (Fn.func 179) #[] #[Value.pointer (some { block := g, off := 0 })]) :: undef :: u10 :: u11 :: u12 :: undef :: (Value.int IntKind.i64 ↑b) :: (Value.pointer (some { block := w.heap.size, off := 0 })) :: (Value.int IntKind.i64 ↑n) :: (Value.pointer (some { block := w.heap.size, off := 0 })) :: (Value.int IntKind.i64 ↑n) :: (Value.slice (some { block := go, off := 0 }) (lapM n ms).length c) :: (Value.func (Fn.func 179) #[] #[Value.pointer (some { block := g, off := 0 })]) :: (Value.slice A3 ms.length c3) :: (Value.int IntKind.i64 ↑ms.length) :: (Value.int IntKind.i64 ↑ms.length) :: (Value.bool false) :: u25 :: u26 :: u27 :: u28 :: u29 :: u30 :: u31 :: u32 :: u33 :: u34 :: u35 :: u36 :: u37 :: u38 :: u39 :: u40 :: u41 :: u42 :: u43 :: u44 :: u45 :: u46 :: u47 :: u48 :: u49 :: u50 :: u51 :: u52 :: u53 :: u54 :: u55 :: u56 :: u57 :: u58 :: u59 :: u60 :: u61 :: u62 :: u63 :: (Value.slice (some { block := bl, off := ol }) rs.length c2) :: (Value.int IntKind.i64 ↑rs.length) :: (Value.int IntKind.i64 ↑k) :: (Value.bool true) :: (Value.pointer (some { block := bl, off := ol + k })) :: (Value.int IntKind.i64 ↑b) :: (u 0) :: (u 1) :: (u 2) :: (u 3) :: (u 4) :: (u 5) :: u76 :: u77 :: undef :: []), defers := [] }) (fun k => #[u70, u71, u72, u73, u74, u75].getD k undef) rfl (fun W1 W2 => Below W1.heap.size W1 W2) (fun _ => Below.refl _ _) (fun h1 h2 => bthen h1 h2)
            (fun j9 v W1 => match j9 with
              | 0 => v = Value.slice (some ⟨go, 0, none⟩) n c
              | 1 => v = Value.int .i64 (b : Int)
              | 2 => v = Value.pointer (some ⟨w.heap.size, 0, none⟩)
              | 3 => v = Value.int .i64 (n : Int)
              | 4 => v = Value.int .i64 (b : Int)
              | 5 => ∃ A l c, v = .slice A l c ∧ Vq n0 cq W1 (.slice A l c) (unitL n b)
              | _ => True) ?hY ?step ?fin
          case hY =>
            intro k v W1 W2 h hb
            match k, h with
            | 0, h => exact h
            | 1, h => exact h
            | 2, h => exact h
            | 3, h => exact h
            | 4, h => exact h
            | 5, ⟨A, l, c, e, h⟩ => exact ⟨A, l, c, e, h.below cq_stable hb⟩
            | k + 6, h => trivial
          case step =>
            intro u W' j o hj ho hR hpre
            have hbw : Below wq.heap.size wq W' := bthen (bdr (b0 wq)) hR
            have x0 := (HTB.out.later hbw).box.cell 0
            simp only [List.getElem?_cons_zero] at x0
            have x1 := HN0.out W' hbw
            obtain rfl | rfl | rfl | rfl | rfl | rfl : j = 0 ∨ j = 1 ∨ j = 2 ∨ j = 3 ∨ j = 4 ∨ j = 5 := by omega
            · simp at ho
              subst ho
              simp [Region.binds] at hpre
              refine wpOpIn_step rfl (fun K' hK => ?_)
              simp only [Region.wanted]
              have HK := Lib.hid hK
              clear hK
              gi_wp2
              exact HK.out _ _ ⟨Value.slice (some ⟨go, 0, none⟩) n c, by simp [upd, undef, *], Below.refl _ _, rfl⟩
            · simp at ho
              subst ho
              simp [Region.binds] at hpre
              refine wpOpIn_step rfl (fun K' hK => ?_)
              simp only [Region.wanted]
              have HK := Lib.hid hK
              clear hK
              gi_wp2
              exact HK.out _ _ ⟨Value.int .i64 (b : Int), by simp [upd, undef, *], Below.refl _ _, rfl⟩
            · simp at ho
              subst ho
              simp [Region.binds] at hpre
              refine wpOpIn_step rfl (fun K' hK => ?_)
              simp only [Region.wanted]
              have HK := Lib.hid hK
              clear hK
              gi_wp2
              exact HK.out _ _ ⟨Value.pointer (some ⟨w.heap.size, 0, none⟩), by simp [upd, undef, *], Below.refl _ _, rfl⟩
            · simp at ho
              subst ho
              simp [Region.binds] at hpre
              refine wpOpIn_step rfl (fun K' hK => ?_)
              simp only [Region.wanted]
              have HK := Lib.hid hK
              clear hK
              gi_wp2
              exact HK.out _ _ ⟨Value.int .i64 (n : Int), by simp [upd, undef, *], Below.refl _ _, rfl⟩
            · simp at ho
              subst ho
              simp [Region.binds] at hpre
              refine wpOpIn_step rfl (fun K' hK => ?_)
              simp only [Region.wanted]
              have HK := Lib.hid hK
              clear hK
              gi_wp2
              exact HK.out _ _ ⟨Value.int .i64 (b : Int), by simp [upd, undef, *], Below.refl _ _, rfl⟩
            · simp at ho
              subst ho
              simp [Region.binds] at hpre
              obtain ⟨h3', h4'⟩ := hpre
              refine wpOpIn_step rfl (fun K' hK => ?_)
              simp only [Region.wanted]
              have HK := Lib.hid hK
              clear hK
              gi_wp2_with (gi_at_call 86; (with_reducible refine CallsIn.mono (callsIn_wide.2 (unit_c (n0 := n0) W' n b (by omega) hbn)) ?_); rintro e w1 ⟨A5, l5, c5, rfl, hb1, hv1, _⟩)
              refine HK.out _ _ ⟨Value.slice A5 l5 c5, by simp [upd, undef, Qx.v, Qx.zero, *], hb1, ⟨A5, l5, c5, rfl, hv1⟩⟩
          case fin =>
            intro u W' hR hY
            have hbw : Below wq.heap.size wq W' := bthen (bdr (b0 wq)) hR
            have g0 : u 0 = Value.slice (some ⟨go, 0, none⟩) n c := hY 0 (by omega)
            have g1 : u 1 = Value.int .i64 (b : Int) := hY 1 (by omega)
            obtain ⟨A5, l5, c5, g5, hv5⟩ := hY 5 (by omega)
            have hlw := HTB.out.later hbw
            obtain ⟨u9, hcb⟩ := hlw.cell hbn
            have hfb := hlw.frz b
            have hsg : go < W'.heap.size := Nat.lt_of_lt_of_le hgo2 hbw.size
            have HLW' := Lib.hid (hlw.put hn0g hbn hv5)
            clear hlw hY hR hbw
            refine wpTail_step (i' := 7) (c := 1) rfl ?_
            rw [g0, g1, g5]
            refine wpOpIn_step rfl (fun K' hK => ?_)
            simp only [Region.wanted, List.getElem_toArray, List.getElem_cons_succ, List.getElem_cons_zero]
            have HK := Lib.hid hK
            clear hK
            gi_wp2
            refine HK.out _ _ ?_
            clear HK
            refine wpTail_step (i' := 8) (c := 0) rfl ?_
            refine wpOpIn_step rfl (fun K' hK => ?_)
            simp only [Region.wanted, List.getElem_toArray, List.getElem_cons_succ, List.getElem_cons_zero]
            have HK := Lib.hid hK
            clear hK
            gi_wp2
            refine HK.out _ _ (wpTail_end ?_)
            clear HK
            go_wp2
            go_roundg (rs.length - (k + 1))
            case rel => exact ⟨k + 1, rfl, by omega, val_int (by omega), Lib.hid (by rw [HJN.out]; exact HLW'.out)⟩
            case measure => omega
        · obtain rfl : k = rs.length := by omega
          have x0 := HTB.out.box.cell 0
          simp only [List.getElem?_cons_zero] at x0
          go_wp2
          go_ret
          have h9 := HTB.out
          rw [List.take_length] at h9
          obtain ⟨vs, hm9⟩ := h9.mat
          exact ⟨_, n, c, rfl, h9.below, hm9.vm⟩
end Go.Proofs.YtdkfdamihnieiaaGreat
end
