/- net.Strip: the lines in service and their places. -/
import Derived.Test.YtdkfdamihnieiaaGreatG13
import Derived.Test.YtdkfdamihnieiaaGreatG21
set_option linter.unusedSimpArgs false
set_option linter.unusedVariables false
section
open Go Go.RowKit Go.Shelf
namespace Go.Proofs.YtdkfdamihnieiaaGreat
open Go.Proofs
attribute [local go_sem] Oper.semAt_some wide_fn wide_depth
/-- The lines in service. -/
def servL (ls : List Ln) (out : List Int) : List Ln := (serv ls.length out).map fun k => ls.getD k Ln.zero
def intsL (ks : List Nat) : List Int := ks.map fun (k : Nat) => (k : Int)
/-- Apart from two rows nothing has turned. -/
structure RX (h : Nat) (r1 r2 : Option Nat) (A B : World) : Prop where
  size : A.heap.size ≤ B.heap.size
  same : ∀ k, k < A.heap.size → some k ≠ r1 → some k ≠ r2 → B.heap[k]? = A.heap[k]?
  below : Below h A B
theorem RX.refl {h r1 r2} (A : World) : RX h r1 r2 A A := ⟨Nat.le_refl _, fun _ _ _ _ => rfl, Below.refl _ _⟩
theorem RX.trans {h r1 r2} {A B C : World} (H : RX h r1 r2 A B) (k : RX h r1 r2 B C) : RX h r1 r2 A C := ⟨Nat.le_trans H.size k.size, fun j hj h1 h2 => (k.same j (Nat.lt_of_lt_of_le hj H.size) h1 h2).trans (H.same j hj h1 h2), H.below.trans k.below⟩
theorem RX.of {h r1 r2} {A B : World} (H : Below A.heap.size A B) (hh : h ≤ A.heap.size) : RX h r1 r2 A B := ⟨H.size, fun j hj _ _ => H.block j hj, H.mono hh⟩
theorem RX.g1 {h r1 r2} {A B : World} (H : A.grownBy B r1) (hh : h ≤ A.heap.size) (hr : ∀ r, r1 = some r → h ≤ r) : RX h r1 r2 A B := ⟨H.size, fun j hj h1 _ => H.block j hj h1, (Below.refl _ _).grown H hh hr⟩
theorem RX.g2 {h r1 r2} {A B : World} (H : A.grownBy B r2) (hh : h ≤ A.heap.size) (hr : ∀ r, r2 = some r → h ≤ r) : RX h r1 r2 A B := ⟨H.size, fun j hj _ h2 => H.block j hj h2, (Below.refl _ _).grown H hh hr⟩
theorem own_keep {w w' : World} {row : Option Nat} {base : Nat} {e : TypeId} {size n : Nat} {v : Value} {xs : List Value} (h : w.ownsRow base e size v n xs) (hg : w.grownBy w' row) (hr : ∀ r, row = some r → ∃ o : Obj, w.heap[r]? = some o ∧ o.isCells = false) : w'.ownsRow base e size v n xs := by
  refine h.kept hg ?_
  rcases h.2 with ⟨e, _⟩ | ⟨g, cap, cur, e, _, hgg, _⟩
  · left; rw [e]; rfl
  · right; rw [e]; intro e2
    obtain ⟨o, ho, hc⟩ := hr g e2.symm
    rw [hgg] at ho; cases ho; cases hc
theorem own_cells {w : World} {base : Nat} {e : TypeId} {size n : Nat} {v : Value} {xs : List Value} (h : w.ownsRow base e size v n xs) {r : Nat} (hr : v.ownBlock = some r) : ∃ cs, w.heap[r]? = some (.cells cs e (0, 0)) := by
  rcases h.2 with ⟨e, _⟩ | ⟨g, cap, cur, e, _, hgg, _⟩
  · rw [e] at hr; cases hr
  · rw [e] at hr; injection hr with hr; simp only at hr; subst hr; exact ⟨_, hgg⟩
/-- Rows of two types stand apart. -/
theorem own_keepT {w w' : World} {base base2 : Nat} {e e2 : TypeId} {size n size2 n2 : Nat} {v v2 : Value} {xs xs2 : List Value} (h : w.ownsRow base e size v n xs) (h2 : w.ownsRow base2 e2 size2 v2 n2 xs2) (hT : e ≠ e2) (hg : w.grownBy w' v2.ownBlock) : w'.ownsRow base e size v n xs := by
  refine h.kept hg ?_
  rcases h.2 with ⟨e, _⟩ | ⟨g, cap, cur, e, _, hgg, _⟩
  · left; rw [e]; rfl
  · right; rw [e]; intro e2
    obtain ⟨cs, hc⟩ := own_cells h2 e2.symm
    rw [hgg] at hc; injection hc with hc; injection hc with _ hc _; exact hT hc
theorem own_apart {w : World} {base : Nat} {e T : TypeId} {size n : Nat} {v : Value} {xs cs : List Value} {b : Nat} (h : w.ownsRow base e size v n xs) (hb : Blk w b T cs) (hT : T ≠ e) : some b ≠ v.ownBlock := fun e1 => own_type h hb hT e1.symm
theorem own_sl {w : World} {base : Nat} {e : TypeId} {size n : Nat} {v : Value} {xs : List Value} (h : w.ownsRow base e size v n xs) : Sl w v n xs := by
  rcases h.2 with ⟨rfl, h0⟩ | ⟨g, cap, cur, rfl, hg, hh, h1, h2, h3, h4⟩
  · subst h0
    have h1 := h.1
    obtain rfl : xs = [] := List.eq_nil_of_length_eq_zero (by omega)
    exact Sl.nil (by unfold maxLen; omega)
  · refine ⟨_, cap, rfl, h1, h2, fun _ => ⟨g, 0, rfl, fun j hj => ?_⟩⟩
    rw [Nat.zero_add, cell_of_row w g _ cur e (0, 0) hh, ← h4, List.getElem?_take_of_lt (by have := h.1; omega)]
    simp
/-- The two rows in the making. -/
structure StrI (w : World) (s : Nat) (b : Int) (ls : List Ln) (pre : List Nat) (W : World) (v1 v2 : Value) : Prop where
  box1 : Blk W (w.heap.size + 1) 24 [.int .i64 b, v1]
  box2 : Blk W (w.heap.size + 1 + 1) 25 [v2]
  own1 : W.ownsRow s 68 4 v1 pre.length (lcs (pre.map fun k => ls.getD k Ln.zero))
  own2 : W.ownsRow s 3 1 v2 pre.length (i64s (intsL pre))
  below : Below w.heap.size w W
  size : s ≤ W.heap.size
  low : w.heap.size + 3 ≤ s
theorem StrI.grown {w s b ls pre W W' v1 v2} {row : Option Nat} (H : StrI w s b ls pre W v1 v2) (hg : W.grownBy W' row) (hr : ∀ r, row = some r → s ≤ r ∧ ∃ o : Obj, W.heap[r]? = some o ∧ o.isCells = false) : StrI w s b ls pre W' v1 v2 := by
  have hr2 : ∀ r, row = some r → ∃ o : Obj, W.heap[r]? = some o ∧ o.isCells = false := fun r e => (hr r e).2
  refine ⟨box8_from H.box1 hg hr2, box8_from H.box2 hg hr2, own_keep H.own1 hg hr2, own_keep H.own2 hg hr2, below_from H.below (B := w.heap.size) (Nat.le_refl _) (Nat.le_trans (by have := H.low; omega) H.size) hg (fun r e => by have := (hr r e).1; have := H.low; omega), Nat.le_trans H.size hg.size, H.low⟩
theorem Tryz.under22 : Tryz.prog.underlying 22 = some (.slice 68) := by kernel_rfl
theorem Tryz.info68 : (Tryz.prog.info? 68).map (fun i => (i.zero, i.size, i.bytes)) = some (some (.agg #[.int .i64 0, .int .i64 0, .int .i64 0, .int .i64 0]), 4, 32) := by kernel_rfl
/-- What holds within a round's region. -/
def GX (h n : Nat) (v1 v2 : Value) (L1 M1 L2 M2 : List Value) (D : Nat → Prop) (u : Nat → Value) (W : World) : Prop :=
  (¬ D 4 → W.ownsRow h 68 4 v1 n L1) ∧ (D 4 → W.ownsRow h 68 4 (u 4) (n + 1) M1) ∧ (¬ D 8 → W.ownsRow h 3 1 v2 n L2) ∧ (D 8 → W.ownsRow h 3 1 (u 8) (n + 1) M2)
theorem GX.gen {h n v1 v2 L1 M1 L2 M2 D u W W2} {J : Nat} {v : Value} (H : GX h n v1 v2 L1 M1 L2 M2 D u W) (hb : Below W.heap.size W W2) (h4 : J ≠ 4) (h8 : J ≠ 8) : GX h n v1 v2 L1 M1 L2 M2 (fun k => k = J ∨ D k) (upd u J v) W2 := by
  have u4 : upd u J v 4 = u 4 := by unfold upd; rw [if_neg (fun e => h4 e.symm)]
  have u8 : upd u J v 8 = u 8 := by unfold upd; rw [if_neg (fun e => h8 e.symm)]
  refine ⟨fun hd => row_below (H.1 (fun h => hd (.inr h))) hb, fun hd => ?_, fun hd => row_below (H.2.2.1 (fun h => hd (.inr h))) hb, fun hd => ?_⟩
  · rw [u4]; exact row_below (H.2.1 (hd.resolve_left (fun e => h4 e.symm))) hb
  · rw [u8]; exact row_below (H.2.2.2 (hd.resolve_left (fun e => h8 e.symm))) hb
theorem GX.op4 {h n v1 v2 L1 M1 L2 M2 D u W W2} {v : Value} (H : GX h n v1 v2 L1 M1 L2 M2 D u W) (h4 : ¬ D 4) (hg : W.grownBy W2 v1.ownBlock) (ho : W2.ownsRow h 68 4 v (n + 1) M1) : GX h n v1 v2 L1 M1 L2 M2 (fun k => k = 4 ∨ D k) (upd u 4 v) W2 := by
  have u8 : upd u 4 v 8 = u 8 := rfl
  have hown := H.1 h4
  refine ⟨fun hd => absurd (.inl rfl) hd, fun _ => ho, fun hd => own_keepT (H.2.2.1 (fun h => hd (.inr h))) hown (by decide) hg, fun hd => ?_⟩
  rw [u8]; exact own_keepT (H.2.2.2 (hd.resolve_left (by decide))) hown (by decide) hg
theorem GX.op8 {h n v1 v2 L1 M1 L2 M2 D u W W2} {v : Value} (H : GX h n v1 v2 L1 M1 L2 M2 D u W) (h8 : ¬ D 8) (hg : W.grownBy W2 v2.ownBlock) (ho : W2.ownsRow h 3 1 v (n + 1) M2) : GX h n v1 v2 L1 M1 L2 M2 (fun k => k = 8 ∨ D k) (upd u 8 v) W2 := by
  have u4 : upd u 8 v 4 = u 4 := rfl
  have hown := H.2.2.1 h8
  refine ⟨fun hd => own_keepT (H.1 (fun h => hd (.inr h))) hown (by decide) hg, fun hd => ?_, fun hd => absurd (.inl rfl) hd, fun _ => ho⟩
  rw [u4]; exact own_keepT (H.2.1 (hd.resolve_left (by decide))) hown (by decide) hg
theorem in_stops {n : Nat} (hn : 1 ≤ n) {Ba Bb : Nat} {wV w : World} {b : Int} {vl vo : Value} {ls : List Ln} {out : List Int} (hl : Vl wV vl ls) (ho : Vi wV vo out) (hs : StrictL out) (hm : out.length ≤ 1000000000) (hBa : w.heap[Ba]? = some (.cells #[.int .i64 b, vl] 24 (0, 0))) (hBb : w.heap[Bb]? = some (.cells #[vo] 25 (0, 0))) (hW0 : Below wV.heap.size wV w) :
    SeqStopsK Fence.wide n Tryz.prog 234 #[.pointer (some ⟨Ba, 0, none⟩), .pointer (some ⟨Bb, 0, none⟩)] (prL ls) (KB wV.heap.size Ba Bb) (fun ys => ys = serv ls.length out) (fun pre => pre <+: serv ls.length out) (serv ls.length out).length w := fun l J Jx W hW hJ _ hY h0 =>
  in1_in n hn l Ba Bb hl ho hs hm J Jx W hJ hY ((hW.block Ba (Array.getElem?_eq_some_iff.1 hBa).1).trans hBa) ((hW.block Bb (Array.getElem?_eq_some_iff.1 hBb).1).trans hBb) h0 (hW0.trans (hW.mono hW0.size))
theorem strict_len {xs : List Int} (h : StrictL xs) (h0 : ∀ x ∈ xs, 0 ≤ x) : ∀ i, i < xs.length → (i : Int) ≤ xs.getD i 0 := by
  intro i
  induction i with
  | zero =>
    intro hi
    rw [List.getD_eq_getElem?_getD, List.getElem?_eq_getElem hi]
    exact h0 _ (List.getElem_mem hi)
  | succ i ih =>
    intro hi
    have h1 := ih (by omega)
    have h2 := h i (i + 1) (by omega) hi
    omega
theorem outs_ok {b : Int} {ls : List Ln} {out : List Int} (h : outsS b ls out = 0) : chkS b ls = 0 ∧ StrictL out ∧ (∀ x ∈ out, 0 ≤ x) ∧ (0 < out.length → out.getD (out.length - 1) 0 < ls.length) ∧ out.length ≤ ls.length := by
  unfold outsS at h
  by_cases hc : chkS b ls = 0
  · rw [if_neg (by simp [hc])] at h
    refine ⟨hc, ?_⟩
    split at h
    · rename_i hr
      simp only [Bool.and_eq_true] at hr
      have := risesL_all hr.1
      have h0 : ∀ x ∈ out, 0 ≤ x := fun x hx => by have := this.1 x hx; omega
      have h3 : 0 < out.length → out.getD (out.length - 1) 0 < ls.length := fun hp => by
        have := hr.2
        simp only [Bool.or_eq_true, decide_eq_true_eq] at this
        omega
      refine ⟨this.2, h0, h3, ?_⟩
      by_cases hp : 0 < out.length
      · have h4 := strict_len this.2 h0 (out.length - 1) (by omega)
        have h5 := h3 hp
        omega
      · omega
    · omega
  · rw [if_pos hc] at h; exact absurd h hc
theorem chk_ok {b : Int} {ls : List Ln} (h : chkS b ls = 0) : 1 ≤ b ∧ b ≤ 6 ∧ ls.length ≤ 10 ∧ ls.all (lnok b) = true := by
  unfold chkS at h
  split at h
  · omega
  · split at h
    · omega
    · split at h
      · rename_i h3; exact ⟨by omega, by omega, by omega, h3⟩
      · omega
/-- Strip answers with an error. -/
theorem strip_e {w : World} {b : Int} {v vo : Value} {ls : List Ln} {out : List Int} (h : Vl w v ls) (ho : Vi w vo out) (he : outsS b ls out ≠ 0) : Calls Tryz.prog 104 #[.agg #[.int .i64 b, v], vo] w fun e w' =>
    e = .returned (.tuple #[.agg #[.int .i64 0, .slice none 0 0], .slice none 0 0, .int .i64 (outsS b ls out)]) ∧ Below w.heap.size w w' := by
  have HO := Lib.hid (fun W (hb : Below w.heap.size w W) => outs_c (b := b) (h.below hb) (ho.below hb))
  obtain ⟨A1, l1, c1, rfl⟩ := h.shape
  obtain ⟨A2, l2, c2, rfl⟩ := ho.shape
  obtain ⟨e0, he0⟩ : ∃ e0, e0 = outsS b ls out := ⟨_, rfl⟩
  rw [← he0] at he HO ⊢
  clear he0 h ho
  have HW := Lib.hid (HO.out _ (bal (bal (bal (b0 w) (o := .cells #[.int .i64 b, .slice A1 l1 c1] 24)) (o := .cells #[.int .i64 0, .slice none 0 0] 24)) (o := .cells #[.slice none 0 0] 25)))
  go_enter Tryz.func104, Tryz.ntmps104
  go_wp2_with (go_at_call 68; (with_reducible refine Calls.mono HW.out ?_); rintro e w1 ⟨rfl, hb1⟩; have B1 := Bx.step (Bx.refl (n := w.heap.size + 3) (((w.alloc (Obj.cells #[.int .i64 b, .slice A1 l1 c1] 24)).alloc (Obj.cells #[.int .i64 0, .slice none 0 0] 24)).alloc (Obj.cells #[.slice none 0 0] 25)) (by simp)) hb1; have k1 := B1.cell; have f1 := B1.frozen; have s1 := B1.s; have HB1 := Lib.hid (bthen (bal (bal (bal (b0 w)))) hb1); clear hb1)
  refine bodyPost_ret (v := .tuple #[.agg #[.int .i64 0, .slice none 0 0], .slice none 0 0, .int .i64 e0]) ?_ rfl ⟨rfl, bset (bset (bset HB1.out (by simp <;> omega)) (by simp <;> omega)) (by simp <;> omega)⟩
  simp [results, Tryz.results104, go_sem, k1]


set_option maxRecDepth 100000 in
set_option maxHeartbeats 4000000 in
theorem strip_o {w : World} {b : Int} {v vo : Value} {ls : List Ln} {out : List Int} (h : Vl w v ls) (ho : Vi w vo out) (he : outsS b ls out = 0) : Calls Tryz.prog 104 #[.agg #[.int .i64 b, v], vo] w fun e w' =>
    ∃ A l c A' l' c', e = .returned (.tuple #[.agg #[.int .i64 b, .slice A l c], .slice A' l' c', .int .i64 0]) ∧ Below w.heap.size w w' ∧ Vl w' (.slice A l c) (servL ls out) ∧ Vi w' (.slice A' l' c') (intsL (serv ls.length out)) := by
  obtain ⟨hchk, hst, _, _, hol⟩ := outs_ok he
  have hll : ls.length ≤ 10 := (chk_ok hchk).2.2.1
  have hmo : out.length ≤ 1000000000 := by omega
  have HO := Lib.hid (fun W (hb : Below w.heap.size w W) => outs_c (b := b) (h.below hb) (ho.below hb))
  rw [he] at HO
  have HLS := Lib.hid h
  have HOS := Lib.hid ho
  obtain ⟨A1, l1, c1, rfl⟩ := h.shape
  obtain ⟨A2, l2, c2, rfl⟩ := ho.shape
  clear h ho he hchk
  have HW := Lib.hid (HO.out _ (bal (bal (bal (b0 w) (o := .cells #[.int .i64 b, .slice A1 l1 c1] 24)) (o := .cells #[.int .i64 0, .slice none 0 0] 24)) (o := .cells #[.slice none 0 0] 25)))
  refine (callsIn_wide (n := 10)).1 ?_
  refine callsIn_of_wp_marks Tryz.func104 rfl trivial ?_ rfl
  simp only [Tryz.ntmps104, List.size_toArray, List.length_cons, List.length_nil, Nat.reduceAdd, Nat.reduceSub, Array.replicate_succ, Array.replicate_zero, List.push_toArray, List.append_toArray, List.nil_append, List.cons_append]
  gi_wp2_with (first
    | (gi_at_call 68; (with_reducible refine CallsIn.mono (callsIn_wide.2 HW.out) ?_); rintro e w1 ⟨rfl, hb1⟩; have B1 := Bx.step (Bx.refl (n := w.heap.size + 3) (((w.alloc (Obj.cells #[.int .i64 b, .slice A1 l1 c1] 24)).alloc (Obj.cells #[.int .i64 0, .slice none 0 0] 24)).alloc (Obj.cells #[.slice none 0 0] 25)) (by simp)) hb1; have k1 := B1.cell; have f1 := B1.frozen; have s1 := B1.s; have HB1 := Lib.hid hb1; clear hb1)
    | (gi_at_call 176; (with_reducible refine CallsIn.mono (callsIn_wide.2 in_s) ?_); rintro e w2 ⟨rfl, rfl⟩))

  refine' wpIn_rangeFunc_ownH rfl (by omega) (gf := 234) (lb := #[.pointer (some ⟨w1.heap.size, 0, none⟩), .pointer (some ⟨w1.heap.size + 1, 0, none⟩)]) rfl trivial (enters_of Tryz.func234 (by kernel_rfl) rfl)
    (in_stops (n := 9) (by omega) (wV := w) (b := b) HLS.out HOS.out hst hmo ?p1 ?p2 ?p3)
    KB.trans ?p5 (Below.refl _ _) (fun _ => rfl)
    (fun pre W => ∃ v1 v2, StrI w (w1.heap.size + 2) b ls pre W v1 v2)
    (fun _ _ _ => False) ?p6 (fun _ _ _ _ _ hs _ _ => hs) ?p7 (fun x a' W => ∃ b9 v1, w.heap.size + 3 ≤ b9 ∧ a' = { tmps := #[(Value.agg #[Value.int .i64 b, .slice A1 l1 c1]), (Value.slice A2 l2 c2), Value.pointer (some ⟨w.heap.size, 0, none⟩), undef, Value.pointer (some ⟨w.heap.size + 1, 0, none⟩), Value.pointer (some ⟨w.heap.size + 1 + 1, 0, none⟩), Value.int .i64 0, Value.int .i64 0, Value.int .i64 (x : Int), Value.pointer (some ⟨b9, 0, none⟩), (Value.agg #[Value.int .i64 b, .slice A1 l1 c1]), (Value.slice A2 l2 c2), Value.int .i64 0, Value.int .i64 0, Value.bool false, undef, undef, Value.pointer (some ⟨w.heap.size, 0, none⟩), Value.int .i64 b, Value.pointer (some ⟨w.heap.size + 1, 0, none⟩), (Value.agg #[Value.int .i64 b, .slice A1 l1 c1]), (Value.slice A2 l2 c2), Value.func (.func 234) #[] #[.pointer (some ⟨w1.heap.size, 0, none⟩), .pointer (some ⟨w1.heap.size + 1, 0, none⟩)], Value.int .i64 (x : Int), (ls.getD x Ln.zero).v, undef, undef, undef, undef, undef, undef, undef, undef, undef, undef, undef, undef], defers := [] } ∧ Blk W b9 68 (ls.getD x Ln.zero).cs ∧ Blk W (w.heap.size + 1) 24 [.int .i64 b, v1] ∧ v1.ownBlock ≠ some b9)
    ?pA ?assign ?body ?done (fun _ _ _ _ _ _ h _ => h.elim)
  case p1 => exact (Below.heap_alloc _ _ _ (by simp)).trans (new_at _ _ (by simp))
  case p2 => exact new_at _ _ (by simp)
  case p3 => exact bal (bal (bset (bthen (bal (bal (bal (b0 w)))) HB1.out) (by simp)))
  case p5 =>
    intro W l o o' hl hlo _ _
    simp at hl
    have hlt := (Array.getElem?_eq_some_iff.1 hlo).1
    exact ⟨by simp, below_putObj (Below.refl _ _) (by omega) (by omega), World.putObj_heap_other (by omega), World.putObj_heap_other (by omega)⟩
  case p6 =>
    rintro pre X Y row ⟨v1, v2, HI⟩ hg hr
    exact ⟨v1, v2, HI.grown hg (fun r e => ⟨by have := (hr r e).1; simpa using this, (hr r e).2⟩)⟩
  case pA =>
    rintro x a' u X Y row ⟨b9, v1, h9, ha', hb9, hb1, hne⟩ hg hr
    exact ⟨b9, v1, h9, ha', box8_from hb9 hg (fun r e => (hr r e).2), box8_from hb1 hg (fun r e => (hr r e).2), hne⟩
  case p7 =>
    have x1 : Blk w1 (w.heap.size + 1) 24 [.int .i64 0, .slice none 0 0] := ((Blk.new (w.alloc (Obj.cells #[.int .i64 b, .slice A1 l1 c1] 24)) [.int .i64 0, .slice none 0 0] 24 (n := w.heap.size + 1) (by simp)).al).below HB1.out
    have x2 : Blk w1 (w.heap.size + 1 + 1) 25 [.slice none 0 0] := (Blk.new ((w.alloc (Obj.cells #[.int .i64 b, .slice A1 l1 c1] 24)).alloc (Obj.cells #[.int .i64 0, .slice none 0 0] 24)) [.slice none 0 0] 25 (n := w.heap.size + 1 + 1) (by simp)).below HB1.out
    refine ⟨.slice none 0 0, .slice none 0 0, ⟨((x1.set 0 (.int .i64 b)).al).al, ((x2.setNe _ (by simp)).al).al, World.ownsRow_nil _ _ _ _, World.ownsRow_nil _ _ _ _, bal (bal (bset (bthen (bal (bal (bal (b0 w)))) HB1.out) (by simp))), by simp [World.setCell], by omega⟩⟩
  case assign =>
    intro l pre x W K hI hK
    obtain ⟨v1, v2, HI⟩ := hI
    have hsz := HI.size
    have hlo := HI.low
    simp only [prL, Ln.v] at hK ⊢
    gi_wp2
    refine hK _ _ ?_ ?_ ⟨v1, v2, HI.grown (World.grownBy_alloc _ _ none) (fun r e => by cases e)⟩ ⟨W.heap.size, v1, by omega, rfl, Blk.new W (ls.getD x Ln.zero).cs 68 rfl, HI.box1.al, fun e => by have := (HI.own1.lt _ e).2; omega⟩
    · exact (KeepsOthers.alloc _ _).from _
    · exact KB.of (A := W) (bal (b0 W)) (by omega) (by omega) (by omega)
  case body =>
    rintro l pre x a' W hl hloop ⟨v1, v2, HI⟩ ⟨b9, v1', h9, rfl, hb9, hb1', hne9⟩ hlen
    obtain rfl : v1' = v1 := by
      have := hb1'.symm.trans HI.box1
      injection this with this; injection this with this _ _
      have := congrArg (fun a => a[1]!) this
      simpa using this
    obtain ⟨sA, sc, rfl⟩ := own_slice HI.own1
    obtain ⟨sB, sd, rfl⟩ := own_slice HI.own2
    obtain ⟨⟨xf, xt, xx, xc⟩, hx⟩ : ∃ y, y = ls.getD x Ln.zero := ⟨_, rfl⟩
    have HX := Lib.hid hx
    rw [← hx] at hb9
    simp only [← hx, Ln.v]
    simp only [Ln.cs] at hb9
    obtain ⟨n, hn⟩ : ∃ n, n = pre.length := ⟨_, rfl⟩
    have hn10 : n < 10 := by rw [hn]; have := serv_le ls.length out; omega
    have HN := Lib.hid hn
    have hown1 := HI.own1
    have hown2 := HI.own2
    have hbx1 := HI.box1
    have hbx2 := HI.box2
    rw [← hn] at hown1 hown2 hbx1 hbx2 hne9
    obtain ⟨L1, hL1⟩ : ∃ L1, L1 = lcs (pre.map fun k => ls.getD k Ln.zero) := ⟨_, rfl⟩
    obtain ⟨L2, hL2⟩ : ∃ L2, L2 = i64s (intsL pre) := ⟨_, rfl⟩
    rw [← hL1] at hown1
    rw [← hL2] at hown2
    have HL1 := Lib.hid hL1
    have HL2 := Lib.hid hL2
    obtain ⟨r1, hr1⟩ : ∃ r1, r1 = (Value.slice sA n sc).ownBlock := ⟨_, rfl⟩
    obtain ⟨r2, hr2⟩ : ∃ r2, r2 = (Value.slice sB n sd).ownBlock := ⟨_, rfl⟩
    have nb1 : some (w.heap.size + 1) ≠ r1 := by rw [hr1]; exact own_apart hown1 hbx1 (by decide)
    have nb1' : some (w.heap.size + 1) ≠ r2 := by rw [hr2]; exact own_apart hown2 hbx1 (by decide)
    have nb2 : some (w.heap.size + 1 + 1) ≠ r1 := by rw [hr1]; exact own_apart hown1 hbx2 (by decide)
    have nb2' : some (w.heap.size + 1 + 1) ≠ r2 := by rw [hr2]; exact own_apart hown2 hbx2 (by decide)
    have nb9 : some b9 ≠ r1 := by rw [hr1]; exact fun e => hne9 e.symm
    have nb9' : some b9 ≠ r2 := by rw [hr2]; exact own_apart hown2 hb9 (by decide)
    have lr1 : ∀ r, r1 = some r → r < W.heap.size ∧ w1.heap.size + 2 ≤ r := fun r e => by rw [hr1] at e; exact ⟨(hown1.lt r e).2, (hown1.lt r e).1⟩
    have lr2 : ∀ r, r2 = some r → r < W.heap.size ∧ w1.heap.size + 2 ≤ r := fun r e => by rw [hr2] at e; exact ⟨(hown2.lt r e).2, (hown2.lt r e).1⟩
    have HR1 := Lib.hid hr1
    have HR2 := Lib.hid hr2
    have HNB := Lib.hid (show some (w.heap.size + 1) ≠ r1 ∧ some (w.heap.size + 1) ≠ r2 ∧ some (w.heap.size + 1 + 1) ≠ r1 ∧ some (w.heap.size + 1 + 1) ≠ r2 ∧ some b9 ≠ r1 ∧ some b9 ≠ r2 from ⟨nb1, nb1', nb2, nb2', nb9, nb9'⟩)
    have HLR := Lib.hid (show (∀ r, r1 = some r → r < W.heap.size ∧ w1.heap.size + 2 ≤ r) ∧ (∀ r, r2 = some r → r < W.heap.size ∧ w1.heap.size + 2 ≤ r) from ⟨lr1, lr2⟩)
    have HG0 := Lib.hid (show GX (w1.heap.size + 2) n (.slice sA n sc) (.slice sB n sd) L1 (L1 ++ [.int .i64 xf, .int .i64 xt, .int .i64 xx, .int .i64 xc]) L2 (L2 ++ [.int .i64 (x : Int)]) (fun _ => False) (fun _ => undef) W.drew from ⟨fun _ => row_below hown1 (bdr (b0 W)), fun h => h.elim, fun _ => row_below hown2 (bdr (b0 W)), fun h => h.elim⟩)
    have HB9 := Lib.hid hb9
    have HBX1 := Lib.hid hbx1
    have HBX2 := Lib.hid hbx2
    have HII := Lib.hid HI
    have hsW := HI.size
    have hlW := HI.low
    clear hn hx hb1' hne9 HI hown1 hown2 hbx1 hbx2 hL1 hL2 hr1 hr2 nb1 nb1' nb2 nb2' nb9 nb9' lr1 lr2 hb9
    obtain ⟨i68, hi68, hy0, hy1, hy2⟩ := info_parts' Tryz.info68
    obtain ⟨i3, hi3, hz0, hz1, hz2⟩ := info_parts' Tryz.info3
    have HT1 := Lib.hid (show i68.zero = some (.agg #[.int .i64 0, .int .i64 0, .int .i64 0, .int .i64 0]) ∧ i68.size = 4 ∧ i68.bytes = 32 from ⟨hy0, hy1, hy2⟩)
    have HT2 := Lib.hid (show i3.zero = some (.int .i64 0) ∧ i3.size = 1 ∧ i3.bytes = 8 from ⟨hz0, hz1, hz2⟩)
    clear hy0 hy1 hy2 hz0 hz1 hz2
    gi_wp2
    refine wpIn_region_G (by kernel_rfl) (by kernel_rfl) 10 2 rfl (by kernel_rfl) (fun u => { tmps := #[(Value.agg #[Value.int .i64 b, .slice A1 l1 c1]), (Value.slice A2 l2 c2), Value.pointer (some ⟨w.heap.size, 0, none⟩), undef, Value.pointer (some ⟨w.heap.size + 1, 0, none⟩), Value.pointer (some ⟨w.heap.size + 1 + 1, 0, none⟩), Value.int .i64 0, Value.int .i64 0, Value.int .i64 (x : Int), Value.pointer (some ⟨b9, 0, none⟩), (Value.agg #[Value.int .i64 b, .slice A1 l1 c1]), (Value.slice A2 l2 c2), Value.int .i64 0, Value.int .i64 0, Value.bool false, undef, undef, Value.pointer (some ⟨w.heap.size, 0, none⟩), Value.int .i64 b, Value.pointer (some ⟨w.heap.size + 1, 0, none⟩), (Value.agg #[Value.int .i64 b, .slice A1 l1 c1]), (Value.slice A2 l2 c2), Value.func (.func 234) #[] #[.pointer (some ⟨w1.heap.size, 0, none⟩), .pointer (some ⟨w1.heap.size + 1, 0, none⟩)], Value.int .i64 (x : Int), (.agg #[.int .i64 xf, .int .i64 xt, .int .i64 xx, .int .i64 xc]), u 0, u 1, u 2, u 3, u 4, u 5, u 6, u 7, u 8, u 9, undef, undef], defers := [] }) (fun _ => undef) rfl (RX w.heap.size r1 r2) RX.refl RX.trans
      (fun j9 v W1 => match j9 with
        | 0 => v = Value.pointer (some ⟨w.heap.size + 1, 1, none⟩)
        | 1 => v = (Value.slice sA n sc)
        | 2 => v = (.agg #[.int .i64 xf, .int .i64 xt, .int .i64 xx, .int .i64 xc])
        | 3 => ∃ g, v = .slice (some ⟨g, 0, none⟩) 1 1 ∧ Blk W1 g 68 [.int .i64 xf, .int .i64 xt, .int .i64 xx, .int .i64 xc] ∧ some g ≠ r1 ∧ some g ≠ r2
        | 4 => ∃ A c, v = .slice A (n + 1) c
        | 5 => v = (Value.slice sB n sd)
        | 6 => v = Value.int .i64 (x : Int)
        | 7 => ∃ g, v = .slice (some ⟨g, 0, none⟩) 1 1 ∧ Blk W1 g 3 [.int .i64 (x : Int)] ∧ some g ≠ r1 ∧ some g ≠ r2
        | 8 => ∃ A c, v = .slice A (n + 1) c
        | 9 => v = Value.pointer (some ⟨w.heap.size + 1, 1, none⟩)
        | _ => True) ?hY (GX (w1.heap.size + 2) n (Value.slice sA n sc) (Value.slice sB n sd) L1 (L1 ++ [.int .i64 xf, .int .i64 xt, .int .i64 xx, .int .i64 xc]) L2 (L2 ++ [.int .i64 (x : Int)])) HG0.out ?step ?fin
    case hY =>
      intro k v W1 W2 h hb
      match k, h with
      | 0, h => exact h
      | 1, h => exact h
      | 2, h => exact h
      | 3, ⟨g, e, hg, n1, n2⟩ => exact ⟨g, e, (hb.same g hg.lt n1 n2).trans hg, n1, n2⟩
      | 4, h => exact h
      | 5, h => exact h
      | 6, h => exact h
      | 7, ⟨g, e, hg, n1, n2⟩ => exact ⟨g, e, (hb.same g hg.lt n1 n2).trans hg, n1, n2⟩
      | 8, h => exact h
      | 9, h => exact h
      | k + 10, h => trivial
    case step =>
      intro D u W' j o hj ho hnD hcl hpre hR hG
      have hsz' := hR.size
      have hsz'' : W.heap.size ≤ W'.heap.size := hsz'
      obtain ⟨n1, n2, n3, n4, n5, n6⟩ := HNB.out
      have q1 : Blk W' (w.heap.size + 1) 24 [.int .i64 b, .slice sA n sc] := (hR.same _ HBX1.out.lt n1 n2).trans HBX1.out
      have q2 : Blk W' (w.heap.size + 1 + 1) 25 [.slice sB n sd] := (hR.same _ HBX2.out.lt n3 n4).trans HBX2.out
      have q9 : Blk W' b9 68 [.int .i64 xf, .int .i64 xt, .int .i64 xx, .int .i64 xc] := (hR.same _ HB9.out.lt n5 n6).trans HB9.out
      have x1 := q1.cell 1
      have x2 := q2.cell 0
      have y0 := q9.cell 0
      have y1 := q9.cell 1
      have y2 := q9.cell 2
      have y3 := q9.cell 3
      simp only [List.getElem?_cons_zero, List.getElem?_cons_succ] at x1 x2 y0 y1 y2 y3
      have HGG := Lib.hid hG
      have HRR := Lib.hid hR
      clear q1 q2 q9 n1 n2 n3 n4 n5 n6 hG hR hsz' hcl
      obtain rfl | rfl | rfl | rfl | rfl | rfl | rfl | rfl | rfl | rfl : j = 0 ∨ j = 1 ∨ j = 2 ∨ j = 3 ∨ j = 4 ∨ j = 5 ∨ j = 6 ∨ j = 7 ∨ j = 8 ∨ j = 9 := by omega
      · simp at ho
        subst ho
        simp [Region.binds] at hpre
        refine wpOpIn_step rfl (fun K' hK => ?_)
        simp only [Region.wanted]
        have HK := Lib.hid hK
        clear hK
        gi_wp2
        exact HK.out _ _ ⟨Value.pointer (some ⟨w.heap.size + 1, 1, none⟩), by simp [upd, undef, *], RX.refl _, rfl, HGG.out.gen (b0 _) (by omega) (by omega)⟩
      · simp at ho
        subst ho
        simp [Region.binds] at hpre
        refine wpOpIn_step rfl (fun K' hK => ?_)
        simp only [Region.wanted]
        have HK := Lib.hid hK
        clear hK
        gi_wp2
        exact HK.out _ _ ⟨(Value.slice sA n sc), by simp [upd, undef, *], RX.refl _, rfl, HGG.out.gen (b0 _) (by omega) (by omega)⟩
      · simp at ho
        subst ho
        simp [Region.binds] at hpre
        refine wpOpIn_step rfl (fun K' hK => ?_)
        simp only [Region.wanted]
        have HK := Lib.hid hK
        clear hK
        gi_wp2
        exact HK.out _ _ ⟨(.agg #[.int .i64 xf, .int .i64 xt, .int .i64 xx, .int .i64 xc]), by simp [upd, undef, *], RX.refl _, rfl, HGG.out.gen (b0 _) (by omega) (by omega)⟩
      · simp at ho
        subst ho
        simp [Region.binds] at hpre
        refine wpOpIn_step rfl (fun K' hK => ?_)
        simp only [Region.wanted]
        have HK := Lib.hid hK
        clear hK
        gi_wp2
        exact HK.out _ _ ⟨.slice (some ⟨W'.heap.size, 0, none⟩) 1 1, by simp [upd, undef, *], RX.of (bal (b0 _)) (by omega), ⟨W'.heap.size, rfl, Blk.new W' [.int .i64 xf, .int .i64 xt, .int .i64 xx, .int .i64 xc] 68 rfl, fun e => by have := (HLR.out.1 _ e.symm).1; omega, fun e => by have := (HLR.out.2 _ e.symm).1; omega⟩, HGG.out.gen (bal (b0 _)) (by omega) (by omega)⟩
      · simp at ho
        subst ho
        simp [Region.binds] at hpre
        obtain ⟨⟨_, e1⟩, _, g, e3, hg, ng1, ng2⟩ := hpre
        rw [e1, e3]
        refine wpOpIn_step rfl (fun K' hK => ?_)
        have HK := Lib.hid hK
        clear hK
        show Oper.wpIn _ _ _ _ _ _ _ _
        refine opIn_append (.tmp 26) (.tmp 28) 22 rfl (w1.heap.size + 2) 68 i68 (.agg #[.int .i64 0, .int .i64 0, .int .i64 0, .int .i64 0]) 4 32 Tryz.under22 hi68 HT1.out.1 HT1.out.2.1 HT1.out.2.2 rfl (by decide) (Value.slice sA n sc) n L1 rfl (HGG.out.1 hnD) ⟨g, 0, none⟩ 1 1 [.int .i64 xf, .int .i64 xt, .int .i64 xx, .int .i64 xc] rfl rfl ?_ ?_ ?_ ?_ ?_ ?_
        · intro j u' hu
          rw [addr_add0, Nat.zero_add, cell_of_row W' g j _ 68 (0, 0) hg]
          simpa using hu
        · intro u' hu; simp at hu; rcases hu with rfl | rfl | rfl | rfl <;> simp [Value.oneCell']
        · unfold maxLen; omega
        · omega
        · omega
        intro v' w2 hown' hgrow hblk
        obtain ⟨A', c', rfl⟩ := own_slice hown'
        refine HK.out _ _ ⟨.slice A' (n + 1) c', by simp [upd, undef, Act.put, e1, e3], RX.g1 (by rw [HR1.out]; exact hgrow) (by omega) (fun r e => by have := (HLR.out.1 r e).2; omega), ⟨A', c', rfl⟩, HGG.out.op4 hnD hgrow hown'⟩
      · simp at ho
        subst ho
        simp [Region.binds] at hpre
        refine wpOpIn_step rfl (fun K' hK => ?_)
        simp only [Region.wanted]
        have HK := Lib.hid hK
        clear hK
        gi_wp2
        exact HK.out _ _ ⟨(Value.slice sB n sd), by simp [upd, undef, *], RX.refl _, rfl, HGG.out.gen (b0 _) (by omega) (by omega)⟩
      · simp at ho
        subst ho
        simp [Region.binds] at hpre
        refine wpOpIn_step rfl (fun K' hK => ?_)
        simp only [Region.wanted]
        have HK := Lib.hid hK
        clear hK
        gi_wp2
        exact HK.out _ _ ⟨Value.int .i64 (x : Int), by simp [upd, undef, *], RX.refl _, rfl, HGG.out.gen (b0 _) (by omega) (by omega)⟩
      · simp at ho
        subst ho
        simp [Region.binds] at hpre
        refine wpOpIn_step rfl (fun K' hK => ?_)
        simp only [Region.wanted]
        have HK := Lib.hid hK
        clear hK
        gi_wp2
        exact HK.out _ _ ⟨.slice (some ⟨W'.heap.size, 0, none⟩) 1 1, by simp [upd, undef, *], RX.of (bal (b0 _)) (by omega), ⟨W'.heap.size, rfl, Blk.new W' [.int .i64 (x : Int)] 3 rfl, fun e => by have := (HLR.out.1 _ e.symm).1; omega, fun e => by have := (HLR.out.2 _ e.symm).1; omega⟩, HGG.out.gen (bal (b0 _)) (by omega) (by omega)⟩
      · simp at ho
        subst ho
        simp [Region.binds] at hpre
        obtain ⟨⟨_, e1⟩, ⟨_, g, e3, hg, ng1, ng2⟩, _⟩ := hpre
        rw [e1, e3]
        refine wpOpIn_step rfl (fun K' hK => ?_)
        have HK := Lib.hid hK
        clear hK
        show Oper.wpIn _ _ _ _ _ _ _ _
        refine opIn_append (.tmp 30) (.tmp 32) 25 rfl (w1.heap.size + 2) 3 i3 (.int .i64 0) 1 8 Tryz.under25 hi3 HT2.out.1 HT2.out.2.1 HT2.out.2.2 rfl (by decide) (Value.slice sB n sd) n L2 rfl (HGG.out.2.2.1 hnD) ⟨g, 0, none⟩ 1 1 [.int .i64 (x : Int)] rfl rfl ?_ ?_ ?_ ?_ ?_ ?_
        · intro j u' hu
          rw [addr_add0, Nat.zero_add, cell_of_row W' g j _ 3 (0, 0) hg]
          simpa using hu
        · intro u' hu; simp at hu; subst hu; simp [Value.oneCell']
        · unfold maxLen; omega
        · omega
        · omega
        intro v' w2 hown' hgrow hblk
        obtain ⟨A', c', rfl⟩ := own_slice hown'
        refine HK.out _ _ ⟨.slice A' (n + 1) c', by simp [upd, undef, Act.put, e1, e3], RX.g2 (by rw [HR2.out]; exact hgrow) (by omega) (fun r e => by have := (HLR.out.2 r e).2; omega), ⟨A', c', rfl⟩, HGG.out.op8 hnD hgrow hown'⟩
      · simp at ho
        subst ho
        simp [Region.binds] at hpre
        refine wpOpIn_step rfl (fun K' hK => ?_)
        simp only [Region.wanted]
        have HK := Lib.hid hK
        clear hK
        gi_wp2
        exact HK.out _ _ ⟨Value.pointer (some ⟨w.heap.size + 1, 1, none⟩), by simp [upd, undef, *], RX.refl _, rfl, HGG.out.gen (b0 _) (by omega) (by omega)⟩
    case fin =>
      intro u W' hR hY hG
      obtain ⟨A4, c4, e4⟩ := hY 4 (by omega)
      obtain ⟨A8, c8, e8⟩ := hY 8 (by omega)
      have e9 : u 9 = Value.pointer (some ⟨w.heap.size + 1, 1, none⟩) := hY 9 (by omega)
      have o1 := hG.2.1 (show 4 < 10 by omega)
      have o2 := hG.2.2.2 (show 8 < 10 by omega)
      rw [e4] at o1
      rw [e8] at o2
      obtain ⟨n1, n2, n3, n4, n5, n6⟩ := HNB.out
      have q1 : Blk W' (w.heap.size + 1) 24 [.int .i64 b, .slice sA n sc] := (hR.same _ HBX1.out.lt n1 n2).trans HBX1.out
      have q2 : Blk W' (w.heap.size + 1 + 1) 25 [.slice sB n sd] := (hR.same _ HBX2.out.lt n3 n4).trans HBX2.out
      have x1 := q1.cell 1
      have f1 := q1.frozen 1
      have q1' := q1.set 1 (.slice A4 (n + 1) c4)
      have q2' := q2.setNe (a := ⟨w.heap.size + 1, 1, none⟩) (.slice A4 (n + 1) c4) (by simp)
      have x2 := q2'.cell 0
      have f2 := q2'.frozen 0
      have q1'' := q1'.setNe (a := ⟨w.heap.size + 1 + 1, 0, none⟩) (.slice A8 (n + 1) c8) (by simp)
      have q2'' := q2'.set 0 (.slice A8 (n + 1) c8)
      simp only [List.getElem?_cons_zero, List.getElem?_cons_succ] at x1 x2
      have hsz' : W.heap.size ≤ W'.heap.size := hR.size
      have hRb : Below w.heap.size W W' := (Below.refl _ _).drew.trans hR.below
      have o1'' := ownsRow_setCell_other (ownsRow_setCell_other o1 (a := ⟨w.heap.size + 1, 1, none⟩) (fun e => own_type o1 q1 (by decide) e) (.slice A4 (n + 1) c4)) (a := ⟨w.heap.size + 1 + 1, 0, none⟩) (fun e => own_type o1 q2 (by decide) e) (.slice A8 (n + 1) c8)
      have o2'' := ownsRow_setCell_other (ownsRow_setCell_other o2 (a := ⟨w.heap.size + 1, 1, none⟩) (fun e => own_type o2 q1 (by decide) e) (.slice A4 (n + 1) c4)) (a := ⟨w.heap.size + 1 + 1, 0, none⟩) (fun e => own_type o2 q2 (by decide) e) (.slice A8 (n + 1) c8)
      have HE1 := Lib.hid (show StrI w (w1.heap.size + 2) b ls (pre ++ [x]) ((W'.setCell ⟨w.heap.size + 1, 1, none⟩ (.slice A4 (n + 1) c4)).setCell ⟨w.heap.size + 1 + 1, 0, none⟩ (.slice A8 (n + 1) c8)) (.slice A4 (n + 1) c4) (.slice A8 (n + 1) c8) from by
        refine ⟨q1'', q2'', ?_, ?_, ((HII.out.below.trans hRb).setCell (by simp) _).setCell (by simp <;> omega) _, by simp [World.setCell]; omega, HII.out.low⟩
        · rw [List.length_append, List.length_singleton, ← HN.out, List.map_append]
          unfold lcs
          rw [List.flatMap_append]
          have h1 := HL1.out
          unfold lcs at h1
          rw [← h1]
          simp only [List.map_cons, List.map_nil, List.flatMap_cons, List.flatMap_nil, List.append_nil, ← HX.out]
          exact o1''
        · rw [List.length_append, List.length_singleton, ← HN.out]
          unfold intsL i64s
          rw [List.map_append, List.map_append]
          have h2 := HL2.out
          unfold intsL i64s at h2
          rw [← h2]
          exact o2'')
      have HE2 := Lib.hid (show KeepsOthers W ((W'.setCell ⟨w.heap.size + 1, 1, none⟩ (.slice A4 (n + 1) c4)).setCell ⟨w.heap.size + 1 + 1, 0, none⟩ (.slice A8 (n + 1) c8)) from by
        refine (KeepsOthers.trans ⟨hsz', fun k o hk hc => (hR.same k (Array.getElem?_eq_some_iff.1 hk).1 (fun e => ?_) (fun e => ?_)).trans hk⟩ (KeepsOthers.setCell _ _ _)).trans (KeepsOthers.setCell _ _ _)
        · obtain ⟨cs, hcs⟩ := own_cells HII.out.own1 (r := k) (by rw [HR1.out, HN.out] at e; exact e.symm)
          rw [hcs] at hk; cases hk; cases hc
        · obtain ⟨cs, hcs⟩ := own_cells HII.out.own2 (r := k) (by rw [HR2.out, HN.out] at e; exact e.symm)
          rw [hcs] at hk; cases hk; cases hc)
      have HE3 := Lib.hid (show KB w.heap.size w1.heap.size (w1.heap.size + 1) W ((W'.setCell ⟨w.heap.size + 1, 1, none⟩ (.slice A4 (n + 1) c4)).setCell ⟨w.heap.size + 1 + 1, 0, none⟩ (.slice A8 (n + 1) c8)) from by
        refine ⟨by simpa [World.setCell] using hsz', ((hRb.setCell (by simp) _).setCell (by simp <;> omega) _), ?_, ?_⟩
        · refine (Below.heap_setCell _ _ _ _ (by simp; omega)).trans ((Below.heap_setCell _ _ _ _ (by simp; omega)).trans (hR.same _ (by simp; omega) (fun e => ?_) (fun e => ?_)))
          · have := (HLR.out.1 _ e.symm).2; omega
          · have := (HLR.out.2 _ e.symm).2; omega
        · refine (Below.heap_setCell _ _ _ _ (by simp; omega)).trans ((Below.heap_setCell _ _ _ _ (by simp; omega)).trans (hR.same _ (by simp; omega) (fun e => ?_) (fun e => ?_)))
          · have := (HLR.out.1 _ e.symm).2; omega
          · have := (HLR.out.2 _ e.symm).2; omega)
      clear hY hG o1 o2 n1 n2 n3 n4 n5 n6 q1 q2 q1' q2' q1'' q2'' o1'' o2'' hR
      refine wpTail_step (i' := 11) (c := 1) rfl ?_
      rw [e4, e8, e9]
      refine wpOpIn_step rfl (fun K' hK => ?_)
      simp only [Region.wanted, List.getElem_toArray, List.getElem_cons_succ, List.getElem_cons_zero]
      have HK := Lib.hid hK
      clear hK
      gi_wp2
      refine HK.out _ _ ?_
      clear HK
      refine wpTail_step (i' := 12) (c := 0) rfl ?_
      refine wpOpIn_step rfl (fun K' hK => ?_)
      simp only [Region.wanted, List.getElem_toArray, List.getElem_cons_succ, List.getElem_cons_zero]
      have HK := Lib.hid hK
      clear hK
      gi_wp2
      refine HK.out _ _ (wpTail_end ?_)
      clear HK
      exact ⟨HE2.out.from _, HE3.out, _, _, HE1.out⟩
  case done =>
    rintro D xs W hD rfl ⟨v1, v2, HI⟩ hdef
    obtain ⟨sA, sc, rfl⟩ := own_slice HI.own1
    obtain ⟨sB, sd, rfl⟩ := own_slice HI.own2
    have HDEF := Lib.hid hdef
    have x10 := HI.box1.cell 0
    have x11 := HI.box1.cell 1
    have f1 := HI.box1.frozen
    have x2 := HI.box2.cell 0
    have f2 := HI.box2.frozen
    simp only [List.getElem?_cons_zero, List.getElem?_cons_succ] at x10 x11 x2
    obtain ⟨N, hN⟩ : ∃ N, N = (serv ls.length out).length := ⟨_, rfl⟩
    rw [← hN] at x11 x2
    have HNN := Lib.hid hN
    obtain ⟨Wz, hWz⟩ : ∃ Wz, Wz = (((W.setCell ⟨w.heap.size + 1, 0, none⟩ (.int .i64 b)).setCell ⟨w.heap.size + 1, 1, none⟩ (.slice sA N sc)).setCell ⟨w.heap.size + 1 + 1, 0, none⟩ (.slice sB N sd)).drew := ⟨_, rfl⟩
    have HWZ := Lib.hid hWz
    have H1 : StrI w (w1.heap.size + 2) b ls (serv ls.length out) Wz (.slice sA (serv ls.length out).length sc) (.slice sB (serv ls.length out).length sd) := by
      rw [hWz, hN]
      have q1 := (((HI.box1.set 0 (.int .i64 b)).set 1 (.slice sA (serv ls.length out).length sc)).setNe (a := ⟨w.heap.size + 1 + 1, 0, none⟩) (.slice sB (serv ls.length out).length sd) (by simp)).dr
      have q2 := (((HI.box2.setNe (a := ⟨w.heap.size + 1, 0, none⟩) (.int .i64 b) (by simp)).setNe (a := ⟨w.heap.size + 1, 1, none⟩) (.slice sA (serv ls.length out).length sc) (by simp)).set 0 (.slice sB (serv ls.length out).length sd)).dr
      refine ⟨q1, q2, ?_, ?_, (((HI.below.setCell (by simp) _).setCell (by simp) _).setCell (by simp <;> omega) _).drew, ?_, HI.low⟩
      · exact row_below (ownsRow_setCell_other (ownsRow_setCell_other (ownsRow_setCell_other HI.own1 (a := ⟨w.heap.size + 1, 0, none⟩) (fun e => own_type HI.own1 HI.box1 (by decide) e) _) (a := ⟨w.heap.size + 1, 1, none⟩) (fun e => own_type HI.own1 HI.box1 (by decide) e) _) (a := ⟨w.heap.size + 1 + 1, 0, none⟩) (fun e => own_type HI.own1 HI.box2 (by decide) e) _) (bdr (b0 _))
      · exact row_below (ownsRow_setCell_other (ownsRow_setCell_other (ownsRow_setCell_other HI.own2 (a := ⟨w.heap.size + 1, 0, none⟩) (fun e => own_type HI.own2 HI.box1 (by decide) e) _) (a := ⟨w.heap.size + 1, 1, none⟩) (fun e => own_type HI.own2 HI.box1 (by decide) e) _) (a := ⟨w.heap.size + 1 + 1, 0, none⟩) (fun e => own_type HI.own2 HI.box2 (by decide) e) _) (bdr (b0 _))
      · have := HI.size; simpa [World.setCell, World.drew] using this
    have hdef' : Wz.heap[D]? = some (.deferred (some [])) := by
      rw [hWz]
      exact (((KeepsOthers.setCell W _ _).trans (KeepsOthers.setCell _ _ _)).trans (KeepsOthers.setCell _ _ _)).same D _ hdef rfl
    have H2 := H1.grown (grownBy_putObj' _ D (.deferred none)) (fun r e => by
      injection e with e; subst e
      exact ⟨by simpa using hD, _, hdef', rfl⟩)
    have z10 := H2.box1.cell 0
    have z11 := H2.box1.cell 1
    have z2 := H2.box2.cell 0
    simp only [List.getElem?_cons_zero, List.getElem?_cons_succ] at z10 z11 z2
    have HII := Lib.hid H2
    have HDEF' := Lib.hid hdef'
    have HZ := Lib.hid (show _ ∧ _ ∧ _ from ⟨z10, z11, z2⟩)
    clear HI hdef hWz hN H1 H2 hdef' z10 z11 z2
    gi_wp2
    gi_region
    rw [← HWZ.out]
    gi_wp2
    obtain ⟨z10, z11, z2⟩ := HZ.out
    refine ⟨by simp, .inl ⟨_, _, rfl, run_takeDeferred HDEF'.out, ?_⟩⟩
    refine ⟨.tuple #[.agg #[.int .i64 b, .slice sA (serv ls.length out).length sc], .slice sB (serv ls.length out).length sd, .int .i64 0], ?_, ?_⟩
    · simp [results, Tryz.results104, go_sem, z10, z11, z2]
    · have h1 := own_sl HII.out.own1
      have h2 := own_sl HII.out.own2
      refine ⟨sA, _, sc, sB, _, sd, rfl, HII.out.below, ?_, ?_⟩
      · unfold Vl servL; rw [List.length_map]; exact h1
      · unfold Vi intsL; rw [List.length_map]; exact h2

end Go.Proofs.YtdkfdamihnieiaaGreat
end
