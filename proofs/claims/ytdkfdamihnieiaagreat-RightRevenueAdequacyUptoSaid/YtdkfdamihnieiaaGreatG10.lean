/- Contracts of package vec, part 2: the iterator of two vectors. -/
import Derived.Test.YtdkfdamihnieiaaGreatG09
import Derived.Stop.RegionWithIn
import Derived.ArgAppend
set_option linter.unusedSimpArgs false
set_option linter.unusedVariables false
section
open Go Go.RowKit Go.Shelf
namespace Go.Proofs.YtdkfdamihnieiaaGreat
open Go.Proofs
attribute [local go_sem] Oper.semAt_some wide_fn wide_depth

/-- The zero rational. -/
def Qx.zero : Qx := ⟨false, .slice none 0 0, false, .slice none 0 0⟩
/-- A vector, its elements' cells named. -/
structure Vw (n0 : Nat) (E : Elt) (w : World) (v : Value) (qs : List Rat) (f : Nat → Qx) : Prop where
  vq : Vq n0 E w v qs
  cells : ∀ A l c, v = .slice A l c → ∀ b o, A = some ⟨b, o, none⟩ → ∀ j, j < qs.length → ∀ i, i < 4 → w.cell? ⟨b, o + j * 4 + i, none⟩ = (f j).cs[i]?
  el : ∀ j, E w (f j).v (qs.getD j 0)
  out : ∀ j, qs.length ≤ j → f j = Qx.zero
theorem Vq.view {n0 E w v qs} (hE : Ratl E) (h : Vq n0 E w v qs) : ∃ f, Vw n0 E w v qs f := by
  have key : ∀ j, ∃ x : Qx, (∀ A l c, v = .slice A l c → ∀ b o, A = some ⟨b, o, none⟩ → j < qs.length → ∀ i, i < 4 → w.cell? ⟨b, o + j * 4 + i, none⟩ = x.cs[i]?) ∧ E w x.v (qs.getD j 0) ∧ (qs.length ≤ j → x = Qx.zero) := by
    intro j
    by_cases hj : j < qs.length
    · obtain ⟨A, l, c, rfl⟩ := h.shape
      obtain ⟨b, o, rfl, _, hc⟩ := h.rv.cells (by omega)
      obtain ⟨x, hx, hcs⟩ := hc j hj
      refine ⟨x, ?_, hx, fun h => by omega⟩
      intro A' l' c' e b' o' e' _ i hi
      injection e with e1
      subst e1
      injection e' with e'
      injection e' with e1 e2
      subst e1 e2
      exact hcs i hi
    · refine ⟨Qx.zero, fun _ _ _ _ _ _ _ h => absurd h hj, ?_, fun _ => rfl⟩
      rw [show qs.getD j 0 = 0 by rw [List.getD_eq_getElem?_getD, List.getElem?_eq_none (by omega)]; rfl]
      exact hE.zero w
  refine ⟨fun j => Classical.choose (key j), h, fun A l c e b o e' j hj i hi => (Classical.choose_spec (key j)).1 A l c e b o e' hj i hi, fun j => (Classical.choose_spec (key j)).2.1, fun j hj => (Classical.choose_spec (key j)).2.2 hj⟩
theorem Vw.below {n0 E w w' v qs f} (hE : Stable E) (h : Vw n0 E w v qs f) (hb : Below w.heap.size w w') : Vw n0 E w' v qs f := by
  refine ⟨h.vq.below hE hb, ?_, fun j => hE.below (h.el j) hb, h.out⟩
  intro A l c e b o e' j hj i hi
  obtain ⟨u, hu⟩ : ∃ u, (f j).cs[i]? = some u := ⟨_, List.getElem?_eq_getElem (show i < (f j).cs.length from hi)⟩
  have h1 := h.cells A l c e b o e' j hj i hi
  rw [hu] at h1 ⊢
  exact (hb.cell (World.block_lt_of_cell? w _ h1)).trans h1
def Qx.o (x : Qx) : Obj := .cells #[.bool x.n, x.s, .bool x.m, x.t] 44
set_option maxHeartbeats 1000000 in
theorem at_x {n0 : Nat} {E : Elt} (hE : Ratl E) {w v qs f} (h : Vw n0 E w v qs f) (k : Nat) : Calls Tryz.prog 111 #[v, .int .i64 (k : Int)] w fun e w' => e = .returned (f k).v ∧ w' = w.alloc (f k).o := by
  obtain ⟨A, l, c, rfl⟩ := h.vq.shape
  have hl := h.vq.len_eq
  have hel := h.el k
  have hm : l ≤ 9223372036854775807 := by have h1 := h.vq.rv.cap; have h2 := h.vq.rv.lim; unfold maxLen at h2; omega
  by_cases hlt : k < l
  · obtain ⟨b, o, rfl, _, _⟩ := h.vq.rv.cells (by omega)
    have hc := h.cells _ _ _ rfl _ _ rfl k (by omega)
    obtain ⟨X, hfk⟩ : ∃ X, f k = X := ⟨_, rfl⟩
    obtain ⟨fn, fs, fm, ft⟩ := X
    rw [hfk] at hel hc ⊢
    simp only [Qx.v] at hel
    have x0 := hc 0 (by omega)
    have x1 := hc 1 (by omega)
    have x2 := hc 2 (by omega)
    have x3 := hc 3 (by omega)
    simp only [Qx.cs, List.getElem?_cons_zero, List.getElem?_cons_succ, Nat.add_zero] at x0 x1 x2 x3
    obtain ⟨⟨A1, l1, c1, rfl⟩, A2, l2, c2, rfl⟩ := hE.slices hel
    have hb := World.block_lt_of_cell? w _ x0
    simp only at hb
    have hne : w.heap.size ≠ b := by omega
    clear hc hl hel hfk h
    go_enter Tryz.func111, Tryz.ntmps111
    go_wp2
    refine bodyPost_ret (v := .agg #[.bool fn, .slice A1 l1 c1, .bool fm, .slice A2 l2 c2]) ?_ rfl ?_
    · simp [results, Tryz.results111, go_sem]
    · exact ⟨rfl, rfl⟩
  · have hz := h.out k (by omega)
    rw [hz]
    have hlt' : ¬ (k : Int) < (l : Int) := by omega
    have hlt2 : decide (k < l) = false := by simpa using hlt
    clear hlt hl h hel hz
    go_enter Tryz.func111, Tryz.ntmps111
    go_wp2
    refine bodyPost_ret (v := .agg #[.bool false, .slice none 0 0, .bool false, .slice none 0 0]) ?_ rfl ?_
    · simp [results, Tryz.results111, go_sem]
    · exact ⟨rfl, rfl⟩
theorem both_c {w : World} {A1 A2 : Option Addr} {l1 c1 l2 c2 : Nat} : Calls Tryz.prog 116 #[.slice A1 l1 c1, .slice A2 l2 c2] w fun e w' =>
    e = .returned (.func (.func 184) #[] #[.pointer (some ⟨w.heap.size, 0, none⟩), .pointer (some ⟨w.heap.size + 1, 0, none⟩)]) ∧ w' = (w.alloc (.cells #[.slice A1 l1 c1] 26)).alloc (.cells #[.slice A2 l2 c2] 26) := by
  go_enter Tryz.func116, Tryz.ntmps116
  go_wp2
  go_ret
  exact ⟨rfl, rfl⟩
/-- The places of the longer vector. -/
def plc (N : Nat) : List (Fin N) := List.finRange N
theorem plc_length (N : Nat) : (plc N).length = N := by simp [plc]
theorem plc_take (N k : Nat) (h : k < N) : (plc N).take (k + 1) = (plc N).take k ++ [⟨k, h⟩] := by
  have hl : k < (plc N).length := by rw [plc_length]; exact h
  rw [List.take_succ_eq_append_getElem hl]
  simp [plc]
/-- What is handed to a round. -/
def pr2 (f g : Nat → Qx) {N : Nat} (x : Fin N) : Array Value := #[.int .i64 (x.val : Int), .agg #[.bool (f x).n, (f x).s, .bool (f x).m, (f x).t, .bool (g x).n, (g x).s, .bool (g x).m, (g x).t]]
/-- What the rounds keep. -/
structure KB (base Ba Bb : Nat) (A B : World) : Prop where
  size : A.heap.size ≤ B.heap.size
  below : Below base A B
  ba : B.heap[Ba]? = A.heap[Ba]?
  bb : B.heap[Bb]? = A.heap[Bb]?
theorem KB.refl (base Ba Bb : Nat) (A : World) : KB base Ba Bb A A := ⟨Nat.le_refl _, Below.refl _ _, rfl, rfl⟩
theorem KB.trans {base Ba Bb : Nat} {A B C : World} (h : KB base Ba Bb A B) (k : KB base Ba Bb B C) : KB base Ba Bb A C := ⟨Nat.le_trans h.size k.size, h.below.trans k.below, k.ba.trans h.ba, k.bb.trans h.bb⟩
theorem KB.of {base Ba Bb : Nat} {A B : World} (h : Below A.heap.size A B) (hb : base ≤ A.heap.size) (ha : Ba < A.heap.size) (hb' : Bb < A.heap.size) : KB base Ba Bb A B := ⟨h.size, h.mono hb, h.block _ ha, h.block _ hb'⟩
theorem grown_drew (W : World) : W.grownBy W.drew none := ⟨rfl, rfl, rfl, Nat.le_refl _, fun _ _ _ => rfl⟩
set_option maxRecDepth 100000 in
set_option maxHeartbeats 2000000 in
theorem both1_in (n : Nat) (hn : 1 ≤ n) (l Ba Bb : Nat) {n0 : Nat} {E : Elt} (hE : Ratl E) {wV : World} {va vb : Value} {qa qb : List Rat} {f g : Nat → Qx} (ha : Vw n0 E wV va qa f) (hb : Vw n0 E wV vb qb g)
    (J Jx : List (Fin (max qa.length qb.length)) → World → Prop) (W : World) (hJ : AbidesFrom W.heap.size J)
    (hY : ∀ pre x W, J pre W → pre.length < (plc (max qa.length qb.length)).length → YieldAt Fence.wide (n - 1) Tryz.prog l (pr2 f g x) W fun e W' =>
      (e = .returned (.bool true) ∧ J (pre ++ [x]) W' ∧ KB wV.heap.size Ba Bb W W') ∨ (e = .returned (.bool false) ∧ Jx (pre ++ [x]) W'))
    (hBa : W.heap[Ba]? = some (.cells #[va] 26 (0, 0))) (hBb : W.heap[Bb]? = some (.cells #[vb] 26 (0, 0))) (h0 : J [] W) (hW : Below wV.heap.size wV W) :
    CallsIn Fence.wide n Tryz.prog 184 #[.func (.yield l) #[] #[], .pointer (some ⟨Ba, 0, none⟩), .pointer (some ⟨Bb, 0, none⟩)] W fun e W' => (∃ v, e = .returned v) ∧
      ((∃ ys, ys = plc (max qa.length qb.length) ∧ J ys W') ∨ (∃ pre, pre <+: plc (max qa.length qb.length) ∧ Jx pre W')) := by
  obtain ⟨A1, l1, c1, rfl⟩ := ha.vq.shape
  obtain ⟨A2, l2, c2, rfl⟩ := hb.vq.shape
  have e1 := ha.vq.len_eq
  have e2 := hb.vq.len_eq
  subst e1 e2
  have hm1 : qa.length ≤ 9223372036854775807 := by have h1 := ha.vq.rv.cap; have h2 := ha.vq.rv.lim; unfold maxLen at h2; omega
  have hm2 : qb.length ≤ 9223372036854775807 := by have h1 := hb.vq.rv.cap; have h2 := hb.vq.rv.lim; unfold maxLen at h2; omega
  have cA := cell_of_row W Ba 0 #[.slice A1 qa.length c1] 26 (0, 0) hBa
  have cB := cell_of_row W Bb 0 #[.slice A2 qb.length c2] 26 (0, 0) hBb
  simp only [List.getElem?_toArray, List.getElem?_cons_zero] at cA cB
  refine callsIn_of_wp Tryz.func184 rfl trivial ?_ rfl
  simp only [Tryz.ntmps184, List.size_toArray, List.length_cons, List.length_nil, Nat.reduceAdd, Nat.reduceSub, Array.replicate_succ, Array.replicate_zero, List.push_toArray, List.append_toArray, List.nil_append, List.cons_append]
  obtain ⟨N, hN⟩ : ∃ N, N = max qa.length qb.length := ⟨_, rfl⟩
  have hN1 : qa.length ≤ N := by omega
  have hN2 : qb.length ≤ N := by omega
  have hN3 : N ≤ 9223372036854775807 := by omega
  have hN4 : N = qa.length ∨ N = qb.length := by omega
  have HN := Lib.hid hN
  clear hN
  have ltA : Ba < W.heap.size := (Array.getElem?_eq_some_iff.1 hBa).1
  have ltB : Bb < W.heap.size := (Array.getElem?_eq_some_iff.1 hBb).1
  have HBa := Lib.hid hBa
  have HBb := Lib.hid hBb
  clear hBa hBb
  gi_wp2
  all_goals
    gi_loopw [10] (fun i wr => ∃ k : Nat, i = .int .i64 (k : Int) ∧ k ≤ N ∧ J ((plc (max qa.length qb.length)).take k) wr ∧ KB wV.heap.size Ba Bb W wr) (fun i _ => N - (intOf i).toNat)
    case atStart => exact ⟨0, rfl, Nat.zero_le _, by simpa using h0, KB.refl _ _ _ _⟩
    case round =>
      obtain ⟨k, rfl, hk, hJs, hkp⟩ := hrel
      by_cases hlt : k < N
      · have cAr := (World.cell?_of_block (w := W) (a := ⟨Ba, 0, none⟩) hkp.ba).trans cA
        have cBr := (World.cell?_of_block (w := W) (a := ⟨Bb, 0, none⟩) hkp.bb).trans cB
        have hkw : Below wV.heap.size wV wr := hW.trans hkp.below
        have lA : Ba < wr.heap.size := Nat.lt_of_lt_of_le ltA hkp.size
        have lB : Bb < wr.heap.size := Nat.lt_of_lt_of_le ltB hkp.size
        have hJ2 : J ((plc (max qa.length qb.length)).take k) ((wr.alloc (f k).o).alloc (g k).o).drew :=
          hJ _ _ _ none (hJ _ _ _ none (hJ _ _ _ none hJs (World.grownBy_alloc _ _ none) (fun r e => by cases e)) (World.grownBy_alloc _ _ none) (fun r e => by cases e)) (grown_drew _) (fun r e => by cases e)
        obtain ⟨fn, tmps, assign, body, hy, hR⟩ := hY _ ⟨k, by rw [← HN.out]; exact hlt⟩ _ hJ2 (by have := HN.out; rw [plc_length, List.length_take, plc_length]; omega)
        have htk := plc_take (max qa.length qb.length) k (by rw [← HN.out]; exact hlt)
        have Htk := Lib.hid htk
        clear htk
        have at1 := fun W' (h : Below wV.heap.size wV W') => at_x hE (ha.below hE.toStable h) k
        have at2 := fun W' (h : Below wV.heap.size wV W') => at_x hE (hb.below hE.toStable h) k
        simp only [pr2] at hy
        obtain ⟨X, hX⟩ : ∃ X, f k = X := ⟨_, rfl⟩
        obtain ⟨Y, hYk⟩ : ∃ Y, g k = Y := ⟨_, rfl⟩
        rw [hX, hYk] at hy hR
        rw [hX] at at1
        rw [hYk] at at2
        obtain ⟨xn, xs, xm, xt⟩ := X
        obtain ⟨yn, ys, ym, yt⟩ := Y
        simp only [Qx.v, Qx.o] at at1 at2 hy hR
        have At1 := Lib.hid at1
        have At2 := Lib.hid at2
        have hR2 := hR.mono (R' := fun e W' => ∃ bb, e = .returned (.bool bb) ∧ Hid (bb = true → J ((plc (max qa.length qb.length)).take (k + 1)) W' ∧ KB wV.heap.size Ba Bb ((wr.alloc (Obj.cells #[.bool xn, xs, .bool xm, xt] 44)).alloc (Obj.cells #[.bool yn, ys, .bool ym, yt] 44)).drew W') ∧ Hid (bb = false → Jx ((plc (max qa.length qb.length)).take (k + 1)) W')) (fun e W' h => by
          rcases h with ⟨rfl, h1, h2⟩ | ⟨rfl, h1⟩
          · refine ⟨true, rfl, ?_, ?_⟩
            · unfold Hid; intro _; rw [Htk.out]; exact ⟨h1, h2⟩
            · unfold Hid; intro h; cases h
          · refine ⟨false, rfl, ?_, ?_⟩
            · unfold Hid; intro h; cases h
            · unfold Hid; intro _; rw [Htk.out]; exact h1)
        have HRR := Lib.hid hR2
        clear at1 at2 hR hR2
        gi_wp2
        gi_region_with (first
          | (gi_at_call 111; (with_reducible refine CallsIn.mono (callsIn_wide.2 (At1.out _ (by (repeat (first | with_reducible assumption | with_reducible exact b0 _ | with_reducible refine bal ?_ | with_reducible refine bdr ?_ | with_reducible refine bset ?_ (by (first | omega | (simp; done) | (simp; omega)))))))) ?_); rintro e w' ⟨rfl, rfl⟩)
          | (gi_at_call 111; (with_reducible refine CallsIn.mono (callsIn_wide.2 (At2.out _ (by (repeat (first | with_reducible assumption | with_reducible exact b0 _ | with_reducible refine bal ?_ | with_reducible refine bdr ?_ | with_reducible refine bset ?_ (by (first | omega | (simp; done) | (simp; omega)))))))) ?_); rintro e w' ⟨rfl, rfl⟩)
          | (with_reducible refine HRR.out.mono ?_; rintro e W3 ⟨bb, rfl, hb1, hb2⟩))
        all_goals
          cases bb with
          | true =>
            obtain ⟨hJ3, hk3⟩ := hb1.out rfl
            gi_wp2
            go_roundw
            case rel => exact ⟨k + 1, by go_num, by omega, hJ3, hkp.trans ((KB.of (bdr (bal (bal (b0 wr)))) hkw.size lA lB).trans hk3)⟩
            case measure => simp [intOf]; omega
          | false =>
            have hJx3 := hb2.out rfl
            gi_wp2
            refine bodyPost_ret (results_none rfl _ _ _) rfl ?_
            exact ⟨⟨_, rfl⟩, .inr ⟨_, List.take_prefix _ _, hJx3⟩⟩
      · obtain rfl : k = N := by omega
        have hJe : J (plc (max qa.length qb.length)) wr := by rw [List.take_of_length_le (by rw [plc_length, ← HN.out]; exact Nat.le_refl _)] at hJs; exact hJs
        gi_wp2
        go_end0
        exact ⟨⟨_, rfl⟩, .inl ⟨_, rfl, hJe⟩⟩
end Go.Proofs.YtdkfdamihnieiaaGreat
end
section
/- A region that draws its order, by an invariant over what has been carried out. -/
open Go Go.RowKit Go.Shelf
namespace Go.Proofs.YtdkfdamihnieiaaGreat
open Go.Proofs
/-- How many are left. -/
def leftOf (l : List Bool) : Nat := (l.filter (fun b => !b)).length
theorem leftOf_set : ∀ (l : List Bool) (j : Nat), l[j]? = some false → leftOf (l.set j true) + 1 = leftOf l := by
  intro l
  induction l with
  | nil => intro j h; simp at h
  | cons x r ih =>
    intro j h
    cases j with
    | zero => simp at h; subst h; simp [leftOf]
    | succ j =>
      have := ih j (by simpa using h)
      cases x <;> simp [leftOf] at * <;> omega
theorem leftOf_zero {l : List Bool} (h : leftOf l = 0) {j : Nat} {b : Bool} (hj : l[j]? = some b) : b = true := by
  unfold leftOf at h
  have h2 : l.filter (fun b => !b) = [] := List.eq_nil_of_length_eq_zero h
  have h3 := List.filter_eq_nil_iff.1 h2 b (List.mem_of_getElem? hj)
  simpa using h3
section
variable {F : Fence} {n : Nat} {P : Program} {ops : Array Oper} {Q : Exit → Act → World → Prop} {md : Region.Mode}
theorem ready_all (hac : ∀ (j : Nat) (o : Oper), ops[j]? = some o → ∀ e ∈ o.after, Region.binds md e = true → e.on < j) {listed : Array Bool} (hs : listed.size = ops.size) (hr : Region.ready md ops listed = []) : ∀ j, j < ops.size → listed.getD j true = true := by
  intro j
  induction j using Nat.strongRecOn with
  | _ j ih =>
    intro hj
    cases hb : listed.getD j true with
    | true => rfl
    | false =>
      exfalso
      have : j ∈ Region.ready md ops listed := by
        rw [mem_ready]
        refine ⟨hb, ops[j], Array.getElem?_eq_getElem hj, fun e he hbd => ?_⟩
        have hlt := hac j ops[j] (Array.getElem?_eq_getElem hj) e he hbd
        have := ih e.on hlt (by omega)
        have hl : e.on < listed.size := by omega
        simpa [Array.getD, hl] using this
      rw [hr] at this
      cases this
/-- What is carried out has what it waits for behind it. -/
def Clos (md : Region.Mode) (ops : Array Oper) (L : Array Bool) : Prop := ∀ (j : Nat) (o : Oper), ops[j]? = some o → L.getD j false = true → ∀ e ∈ o.after, Region.binds md e = true → L.getD e.on false = true
theorem Clos.set {L : Array Bool} {j : Nat} {o : Oper} (h : Clos md ops L) (ho : ops[j]? = some o) (hp : ∀ e ∈ o.after, Region.binds md e = true → L.getD e.on false = true) : Clos md ops (L.setIfInBounds j true) := by
  intro k o' hk hL e he hb
  refine getD_set_true ?_
  by_cases hjk : j = k
  · subst hjk
    rw [ho] at hk; injection hk with hk; subst hk
    exact hp e he hb
  · rw [_root_.Go.getD_set_ne false hjk] at hL
    exact h k o' hk hL e he hb
theorem Clos.start (k : Nat) : Clos md ops (Array.replicate k false) := by
  intro j o _ h
  exfalso
  by_cases hk : j < k
  · simp [Array.getD, hk] at h
  · simp [Array.getD, hk] at h
/-- The rule. -/
theorem wpAnyIn_inv {I : Array Bool → Act → World → Prop} (hac : ∀ (j : Nat) (o : Oper), ops[j]? = some o → ∀ e ∈ o.after, Region.binds md e = true → e.on < j)
    (step : ∀ (listed : Array Bool) (a : Act) (w : World) (j : Nat) (o : Oper), listed.size = ops.size → Clos md ops listed → I listed a w → listed.getD j true = false → ops[j]? = some o → (∀ e ∈ o.after, Region.binds md e = true → listed.getD e.on false = true) → wpOpIn F n P ops Q j (fun a' w' => I (listed.setIfInBounds j true) a' w') a w)
    (done : ∀ (listed : Array Bool) (a : Act) (w : World), I listed a w → (∀ j, j < ops.size → listed.getD j false = true) → Q .normal a w) :
    ∀ fuel listed a w, listed.size = ops.size → Clos md ops listed → leftOf listed.toList ≤ fuel → I listed a w → wpAnyIn F n P md ops Q fuel listed a w := by
  have conv : ∀ {listed : Array Bool}, listed.size = ops.size → (∀ j, j < ops.size → listed.getD j true = true) → ∀ j, j < ops.size → listed.getD j false = true := by
    intro listed hs h j hj
    have := h j hj
    have hlt : j < listed.size := by omega
    simpa [Array.getD, hlt] using this
  intro fuel
  induction fuel with
  | zero =>
    intro listed a w hs hcl hl hI
    have hall : ∀ j, j < ops.size → listed.getD j true = true := by
      intro j hj
      have hlt : j < listed.size := by omega
      have := leftOf_zero (l := listed.toList) (by omega) (j := j) (b := listed[j]) (by simp [hlt])
      simpa [Array.getD, hlt] using this
    refine ⟨?_, done _ _ _ hI (conv hs hall)⟩
    cases hr : Region.ready md ops listed with
    | nil => rfl
    | cons x xs =>
      exfalso
      have hx : x ∈ Region.ready md ops listed := by rw [hr]; exact List.mem_cons_self
      obtain ⟨h1, o, ho, _⟩ := mem_ready.1 hx
      have := hall x (Array.getElem?_eq_some_iff.1 ho).1
      rw [h1] at this; cases this
  | succ fuel ih =>
    intro listed a w hs hcl hl hI
    refine ⟨fun hr => done _ _ _ hI (conv hs (ready_all hac hs hr)), fun i hi => ?_⟩
    obtain ⟨h1, o, ho, h2⟩ := mem_ready.1 hi
    refine wpOpIn_mono (fun a' w' h => ?_) (step listed a w i o hs hcl hI h1 ho h2)
    have hlt : i < listed.size := by have := (Array.getElem?_eq_some_iff.1 ho).1; omega
    refine ih _ a' w' (by simp [hs]) (hcl.set ho h2) ?_ h
    have h3 : listed.toList[i]? = some false := by
      have : listed[i] = false := by simpa [Array.getD, hlt] using h1
      simp [hlt, this]
    have := leftOf_set listed.toList i h3
    simp only [Array.toList_setIfInBounds]
    omega
theorem leftOf_start (k : Nat) : leftOf (Array.replicate k false).toList ≤ k := by
  unfold leftOf
  exact Nat.le_trans (List.length_filter_le _ _) (by simp)
/-- Carried out. -/
def dn (L : Array Bool) (k : Nat) : Prop := L.getD k false = true
theorem dn_self {L : Array Bool} {j : Nat} (h : j < L.size) : dn (L.setIfInBounds j true) j = True := by
  unfold dn; simp [h]
theorem dn_ne {L : Array Bool} {j k : Nat} (h : j ≠ k) : dn (L.setIfInBounds j true) k = dn L k := by
  unfold dn; rw [_root_.Go.getD_set_ne false h]
theorem dn_start {k j : Nat} : dn (Array.replicate k false) j = False := by
  unfold dn
  by_cases hk : j < k <;> simp [Array.getD, hk]
theorem Clos.dn {L : Array Bool} (h : Clos md ops L) {j : Nat} {o : Oper} (ho : ops[j]? = some o) (hj : dn L j) : ∀ e ∈ o.after, Region.binds md e = true → YtdkfdamihnieiaaGreat.dn L e.on := h j o ho hj
theorem not_dn {L : Array Bool} {j : Nat} (h : L.getD j true = false) : ¬ dn L j ∧ j < L.size := by
  unfold YtdkfdamihnieiaaGreat.dn
  by_cases hj : j < L.size
  · simp [Array.getD, hj] at *; exact h
  · simp [Array.getD, hj] at h
/-- Edges lead back. -/
def edgesBack (ops : Array Oper) : Bool := (List.range ops.size).all fun j => match ops[j]? with | some o => o.after.all (fun e => !Region.binds .any e || decide (e.on < j)) | none => true
theorem back_of (h : edgesBack ops = true) : ∀ (j : Nat) (o : Oper), ops[j]? = some o → ∀ e ∈ o.after, Region.binds .any e = true → e.on < j := by
  intro j o ho e he hbd
  unfold edgesBack at h
  rw [List.all_eq_true] at h
  have := h j (List.mem_range.2 (Array.getElem?_eq_some_iff.1 ho).1)
  rw [ho] at this
  simp only [Array.all_eq_true_iff_forall_mem] at this
  simpa [hbd] using this e he
/-- The region, by an invariant. -/
theorem wpIn_region_inv {id : Nat} {a : Act} {w : World} (hm : P.follows .mixedOrders = true) {I : Array Bool → Act → World → Prop} (hac : edgesBack ops = true)
    (start : I (Array.replicate ops.size false) a w.drew)
    (step : ∀ (listed : Array Bool) (a : Act) (w : World) (j : Nat) (o : Oper), listed.size = ops.size → Clos .any ops listed → I listed a w → listed.getD j true = false → ops[j]? = some o → (∀ e ∈ o.after, Region.binds .any e = true → listed.getD e.on false = true) → wpOpIn F n P ops Q j (fun a' w' => I (listed.setIfInBounds j true) a' w') a w)
    (done : ∀ (listed : Array Bool) (a : Act) (w : World), I listed a w → (∀ j, j < ops.size → listed.getD j false = true) → Q .normal a w) : (Code.region id ops true).wpIn F n P Q a w :=
  wpIn_region_any hm (wpAnyIn_inv (back_of hac) step done _ _ _ _ (by simp) (Clos.start _) (leftOf_start _) start)
end
end Go.Proofs.YtdkfdamihnieiaaGreat
end
section
/- Contracts of package vec, part 3: rows of rationals of the call's own. -/
open Go Go.RowKit Go.Shelf
namespace Go.Proofs.YtdkfdamihnieiaaGreat
open Go.Proofs
theorem both_stops {n : Nat} (hn : 1 ≤ n) {Ba Bb n0 : Nat} {E : Elt} (hE : Ratl E) {wV w : World} {va vb : Value} {qa qb : List Rat} {f g : Nat → Qx} (ha : Vw n0 E wV va qa f) (hb : Vw n0 E wV vb qb g) (hBa : w.heap[Ba]? = some (.cells #[va] 26 (0, 0))) (hBb : w.heap[Bb]? = some (.cells #[vb] 26 (0, 0))) (hW0 : Below wV.heap.size wV w) :
    SeqStopsK Fence.wide n Tryz.prog 184 #[.pointer (some ⟨Ba, 0, none⟩), .pointer (some ⟨Bb, 0, none⟩)] (pr2 f g) (KB wV.heap.size Ba Bb) (fun ys => ys = plc (max qa.length qb.length)) (fun pre => pre <+: plc (max qa.length qb.length)) (plc (max qa.length qb.length)).length w := fun l J Jx W hW hJ _ hY h0 =>
  both1_in n hn l Ba Bb hE ha hb J Jx W hJ hY ((hW.block Ba (Array.getElem?_eq_some_iff.1 hBa).1).trans hBa) ((hW.block Bb (Array.getElem?_eq_some_iff.1 hBb).1).trans hBb) h0 (hW0.trans (hW.mono hW0.size))
theorem cell_grown {w W' : World} {row : Option Nat} {a : Addr} {u : Value} (h : w.cell? a = some u) (hg : w.grownBy W' row) (hr : ∀ r, row = some r → ∃ o : Obj, w.heap[r]? = some o ∧ o.isCells = false) : W'.cell? a = some u := by
  refine (World.cell?_of_block (w := w) (hg.block a.block (World.block_lt_of_cell? w a h) (fun e => ?_))).trans h
  obtain ⟨o, ho, hc⟩ := hr _ e.symm
  unfold World.cell? at h
  rw [ho] at h
  cases o <;> simp_all [Obj.isCells]
theorem Rd.grown {ok w W' A c ws} {row : Option Nat} (h : Rd ok w A c ws) (hg : w.grownBy W' row) (hr : ∀ r, row = some r → ∃ o : Obj, w.heap[r]? = some o ∧ o.isCells = false) : Rd ok W' A c ws := by
  refine ⟨h.cap, h.lim, h.okw, fun h0 => ?_⟩
  obtain ⟨b, of, hA, hok, hcs⟩ := h.cells h0
  exact ⟨b, of, hA, hok, fun j hj => cell_grown (hcs j hj) hg hr⟩
theorem Wd.grown {ok w W' v ws} {row : Option Nat} (h : Wd ok w v ws) (hg : w.grownBy W' row) (hr : ∀ r, row = some r → ∃ o : Obj, w.heap[r]? = some o ∧ o.isCells = false) : Wd ok W' v ws := by
  obtain ⟨A, c, e, h⟩ := h; exact ⟨A, c, e, h.grown hg hr⟩
theorem isQc.grown {ok w W' v q} {row : Option Nat} (h : isQc ok w v q) (hg : w.grownBy W' row) (hr : ∀ r, row = some r → ∃ o : Obj, w.heap[r]? = some o ∧ o.isCells = false) : isQc ok W' v q := by
  obtain ⟨n, s, m, t, B, e, ⟨s1, e1, h1, h2⟩, ⟨s2, e2, h3, h4⟩⟩ := h
  exact ⟨n, s, m, t, B, e, ⟨s1, e1, h1.grown hg hr, h2⟩, ⟨s2, e2, h3.grown hg hr, h4⟩⟩
/-- The append of a rational turns its row alone, and a row of rationals holds no words. -/
theorem isQc.row {ok w W' v q} {g : Nat} (h : isQc ok w v q) (hg : w.grownBy W' (some g)) (hn : ∀ b, ok b → b ≠ g) : isQc ok W' v q := by
  have rd : ∀ {A c ws}, Rd ok w A c ws → Rd ok W' A c ws := fun h => by
    refine ⟨h.cap, h.lim, h.okw, fun h0 => ?_⟩
    obtain ⟨b, of, hA, hok, hcs⟩ := h.cells h0
    refine ⟨b, of, hA, hok, fun j hj => ?_⟩
    exact (World.cell?_of_block (w := w) (a := ⟨b, of + j, none⟩) (hg.block b (World.block_lt_of_cell? w ⟨b, of + j, none⟩ (hcs j hj)) (fun e => hn b hok (by injection e)))).trans (hcs j hj)
  obtain ⟨n, s, m, t, B, e, ⟨s1, e1, ⟨A1, c1, x1, h1⟩, h2⟩, ⟨s2, e2, ⟨A2, c2, x2, h3⟩, h4⟩⟩ := h
  exact ⟨n, s, m, t, B, e, ⟨s1, e1, ⟨A1, c1, x1, rd h1⟩, h2⟩, ⟨s2, e2, ⟨A2, c2, x2, rd h3⟩, h4⟩⟩
/-- Cells of a list of rationals. -/
def qcs (l : List Qx) : List Value := l.flatMap Qx.cs
theorem qcs_length (l : List Qx) : (qcs l).length = l.length * 4 := by
  induction l with
  | nil => rfl
  | cons x r ih => simp only [qcs, List.flatMap_cons, List.length_append, List.length_cons] at *; rw [ih]; simp [Qx.cs]; omega
theorem qcs_get : ∀ (l : List Qx) (j i : Nat) (h : j < l.length), i < 4 → (qcs l)[j * 4 + i]? = (l[j]).cs[i]? := by
  intro l
  induction l with
  | nil => intro j i h; simp at h
  | cons x r ih =>
    intro j i h hi
    cases j with
    | zero =>
      simp only [qcs, List.flatMap_cons, Nat.zero_mul, Nat.zero_add, List.getElem_cons_zero]
      rw [List.getElem?_append_left (by simp [Qx.cs]; omega)]
    | succ j =>
      have := ih j i (by simpa using h) hi
      simp only [qcs, List.flatMap_cons, List.getElem_cons_succ] at *
      rw [List.getElem?_append_right (by simp [Qx.cs]; omega), ← this]
      congr 1
      simp [Qx.cs]; omega
theorem qcs_one (x : Qx) : qcs [x] = x.cs := by simp [qcs]
theorem qcs_append (l r : List Qx) : qcs (l ++ r) = qcs l ++ qcs r := by simp [qcs]
/-- A row of the call's own is a vector. -/
theorem own_vq {w : World} {n0 n1 n : Nat} {v : Value} {l : List Qx} {qs : List Rat} {E : Elt} (h : w.ownsRow n1 44 4 v n (qcs l)) (hl : l.length = qs.length) (hx : ∀ j (hj : j < l.length), E w (l[j]).v (qs.getD j 0)) : Vq n0 E w v qs ∧ ∀ A l c, v = .slice A l c → ∀ b o, A = some ⟨b, o, none⟩ → n1 ≤ b := by
  have hn : l.length = n := by have := h.1; rw [qcs_length] at this; omega
  rcases h.2 with ⟨rfl, h0⟩ | ⟨g, cap, cur, rfl, hg, hh, h1, h2, h3, h4⟩
  · have : qs = [] := List.eq_nil_of_length_eq_zero (by omega)
    subst this
    exact ⟨⟨none, 0, rfl, Nat.le_refl _, by unfold maxLen; omega, fun h => by simp at h⟩, fun A l c e b o e' => by injection e with e1; subst e1; cases e'⟩
  · refine ⟨⟨_, cap, by rw [← hl, hn], by omega, h2, fun _ => ⟨g, 0, rfl, .inr ⟨cur, (0, 0), hh⟩, fun j hj => ⟨l[j]'(by omega), hx j (by omega), fun i hi => ?_⟩⟩⟩, fun A l c e b o e' => by injection e with e1; subst e1; injection e' with e'; injection e' with e'; omega⟩
    rw [Nat.zero_add, ← qcs_get l j i (by omega) hi, ← h4]
    rw [cell_of_row w g _ cur 44 (0, 0) hh, List.getElem?_take]
    have : j * 4 + i < n * 4 := by omega
    simp [this]
theorem Qx.one (x : Qx) (hs : ∃ A l c, x.s = .slice A l c) (ht : ∃ A l c, x.t = .slice A l c) : ∀ u ∈ x.cs, u.oneCell' = true := by
  intro u hu
  obtain ⟨A, l, c, e1⟩ := hs
  obtain ⟨A2, l2, c2, e2⟩ := ht
  simp only [Qx.cs, List.mem_cons, List.not_mem_nil, or_false] at hu
  rcases hu with rfl | rfl | rfl | rfl
  · simp [Value.oneCell']
  · rw [e1]; simp [Value.oneCell']
  · simp [Value.oneCell']
  · rw [e2]; simp [Value.oneCell']
/-- The call returns a vector. -/
def RetV (w : World) (n0 : Nat) (qs : List Rat) : Ending → World → Prop := fun e w' =>
  ∃ A l c, e = .returned (.slice A l c) ∧ Below w.heap.size w w' ∧ Vq n0 cq w' (.slice A l c) qs ∧ ∀ b o, A = some ⟨b, o, none⟩ → w.heap.size ≤ b
theorem Vq.imp {n0 : Nat} {E E' : Elt} {w : World} {v : Value} {qs : List Rat} (h : Vq n0 E w v qs) (hE : ∀ v q, q ∈ qs → E w v q → E' w v q) : Vq n0 E' w v qs := by
  obtain ⟨A, c, e, h⟩ := h
  refine ⟨A, c, e, h.cap, h.lim, fun h0 => ?_⟩
  obtain ⟨b, o, hA, hok, hc⟩ := h.cells h0
  refine ⟨b, o, hA, hok, fun j hj => ?_⟩
  obtain ⟨x, hx, hcs⟩ := hc j hj
  refine ⟨x, hE _ _ ?_ hx, hcs⟩
  rw [List.getD_eq_getElem?_getD, List.getElem?_eq_getElem hj]
  exact List.getElem_mem hj
/-- The call returns a vector whose words are new too. -/
def RetVF (w : World) (n0 : Nat) (qs : List Rat) : Ending → World → Prop := fun e w' =>
  ∃ A l c, e = .returned (.slice A l c) ∧ Below w.heap.size w w' ∧ Vq n0 (fun W v q => isQc (fresh w) W v q) w' (.slice A l c) qs ∧ ∀ b o, A = some ⟨b, o, none⟩ → w.heap.size ≤ b
theorem RetVF.v {w : World} {n0 : Nat} {qs : List Rat} {e : Ending} {w' : World} (h : RetVF w n0 qs e w') : RetV w n0 qs e w' := by
  obtain ⟨A, l, c, e, hb, hv, hf⟩ := h
  exact ⟨A, l, c, e, hb, hv.imp (fun v q _ h => isQc.any h), hf⟩
theorem RetVF.lower {w w1 : World} {n0 : Nat} {qs : List Rat} {e : Ending} {w' : World} (hb1 : Below w.heap.size w w1) (h : RetVF w1 n0 qs e w') : RetVF w n0 qs e w' := by
  obtain ⟨A, l, c, e, hb, hv, hf⟩ := h
  exact ⟨A, l, c, e, bthen hb1 hb, hv.imp (fun v q _ h => isQc.mono h (fun b _ hk => Nat.le_trans hb1.size hk)), fun b o e => Nat.le_trans hb1.size (hf b o e)⟩
end Go.Proofs.YtdkfdamihnieiaaGreat
end
section
/- Contracts of package vec, part 4: with. -/
open Go Go.RowKit Go.Shelf
namespace Go.Proofs.YtdkfdamihnieiaaGreat
open Go.Proofs
theorem row_mono {w : World} {base base' : Nat} {e : TypeId} {size : Nat} {v : Value} {n : Nat} {xs : List Value} (h : w.ownsRow base e size v n xs) (hb : base' ≤ base) : w.ownsRow base' e size v n xs := by
  refine ⟨h.1, ?_⟩
  rcases h.2 with h2 | ⟨g, cap, cur, hv, hg, rest⟩
  · exact .inl h2
  · exact .inr ⟨g, cap, cur, hv, by omega, rest⟩
/-- An append to a row of the call's own: in place, or into a new block. -/
theorem run_append_1 {P : Program} {w : World} (base : Nat) (t ty e : TypeId) (i : TypeInfo) (z : Value) (size bytes : Nat) (ht : P.underlying t = some (.slice e)) (hi : P.info? e = some i) (hz : i.zero = some z)
    (hsize : i.size = size) (hby : i.bytes = bytes) (hzs : z.cells.size = size) (hsz : 0 < size)
    (v : Value) (n : Nat) (xs : List Value) (hown : w.ownsRow base e size v n xs)
    (a : Addr) (m c : Nat) (news : List Value) (hl : news.length = m * size) (hnews : ∀ j u, news[j]? = some u → w.cell? (a.add j) = some u) (h1 : ∀ u ∈ news, u.oneCell' = true)
    (h63 : n + m ≤ maxLen) (hbytes : (n + m) * bytes ≤ 140737488355328) (hbase : base ≤ w.heap.size) :
    ∃ v' w', (Builtin.append_ #[t, t] ty #[v, .slice (some a) m c]).run P w = .ok v' w' ∧ w'.ownsRow base e size v' (n + m) (xs ++ news) ∧ w.grownBy w' v.ownBlock ∧
      (∀ g, v'.ownBlock = some g → v.ownBlock = some g ∨ w.heap.size ≤ g) := by
  rcases hown.2 with ⟨rfl, rfl⟩ | ⟨g, cap, cur, rfl, hbg, hg, hnc, hcm, hcs, htake⟩
  · obtain rfl : xs = [] := List.eq_nil_of_length_eq_zero (by have := hown.1; simpa using this)
    obtain ⟨v', w', h2, h3, h4, _⟩ := run_append_own (P := P) w w.heap.size t ty e i z size bytes ht hi hz hsize hby hzs hsz (.slice none 0 0) 0 [] (World.ownsRow_nil w _ e size) a m c news hl hnews h1 h63 hbytes (Nat.le_refl _)
    exact ⟨v', w', h2, row_mono h3 hbase, h4, fun g hg => .inr (h3.lt g hg).1⟩
  · by_cases hroom : n + m ≤ cap
    · obtain ⟨w', h2, h3, h4⟩ := run_append_fits (P := P) w base t ty e i size ht hi hsize g n cap xs hown a m c news hl hnews h1 hroom
      exact ⟨_, w', h2, h3, h4, fun g' hg' => .inl hg'⟩
    · have hcell : ∀ j u, xs[j]? = some u → w.cell? ((⟨g, 0, none⟩ : Addr).add j) = some u := hown.cells rfl
      obtain ⟨v', w', h2, h3, h4⟩ := run_append_arg_grows (P := P) w t ty e i z size bytes ht hi hz hsize hby hzs hsz ⟨g, 0, none⟩ n cap xs hown.1 hcell a m c news hl hnews (by omega) h63 hbytes
      refine ⟨v', w', h2, row_mono h3 hbase, ⟨h4.os, h4.tape, h4.output, h4.size, fun k hk _ => h4.block k hk (by simp)⟩, fun g' hg' => .inr (h3.lt g' hg').1⟩
/-- The same at the operation, within a round. -/
theorem opIn_append {F : Fence} {nn : Nat} {P : Program} {w : World} {o : Oper} {act : Act} {K : Act → World → Prop} {Q : Exit → Act → World → Prop} (s x : Operand) (t : TypeId)
    (hop : o.op = Op.call { callee := Callee.builtin Builtin.append, args := #[s, x], argTypes := #[t, t] })
    (base : Nat) (e : TypeId) (i : TypeInfo) (z : Value) (size bytes : Nat) (ht : P.underlying t = some (.slice e)) (hi : P.info? e = some i) (hz : i.zero = some z)
    (hsize : i.size = size) (hby : i.bytes = bytes) (hzs : z.cells.size = size) (hsz : 0 < size)
    (v : Value) (n : Nat) (xs : List Value) (hs : act.eval s = v) (hown : w.ownsRow base e size v n xs)
    (a : Addr) (m c : Nat) (news : List Value) (hx : act.eval x = .slice (some a) m c) (hl : news.length = m * size) (hnews : ∀ j u, news[j]? = some u → w.cell? (a.add j) = some u) (h1 : ∀ u ∈ news, u.oneCell' = true)
    (h63 : n + m ≤ maxLen) (hbytes : (n + m) * bytes ≤ 140737488355328) (hbase : base ≤ w.heap.size)
    (hK : ∀ v' w', w'.ownsRow base e size v' (n + m) (xs ++ news) → w.grownBy w' v.ownBlock → (∀ g, v'.ownBlock = some g → v.ownBlock = some g ∨ w.heap.size ≤ g) → K (act.put o.dst v') w') :
    Oper.wpIn F nn P o act w K Q := by
  obtain ⟨v', w', hrun, r1, r2, r3⟩ := run_append_1 (P := P) (w := w) base t o.type e i z size bytes ht hi hz hsize hby hzs hsz v n xs hown a m c news hl hnews h1 h63 hbytes hbase
  unfold Oper.wpIn
  refine ⟨?_, ?_⟩
  · simp [Oper.about, hop, resolve, Target.leads, Sem.run_pure]
  · rw [Oper.semAt_plain F _ _ (by rw [hop]; intro c hc'; cases hc')]
    simp [execOp, hop, resolve, invoke, builtin, hs, hx, hrun, Result.andThen]
    exact hK v' w' r1 r2 r3
end Go.Proofs.YtdkfdamihnieiaaGreat
end
section
/- Package net, part 1: slices of integers and of lines; the conditions on a line. -/
open Go Go.RowKit Go.Shelf
namespace Go.Proofs.YtdkfdamihnieiaaGreat
open Go.Proofs
/-- A slice whose cells are known. -/
def Sl (w : World) (v : Value) (n : Nat) (cs : List Value) : Prop :=
  ∃ A c, v = .slice A n c ∧ n ≤ c ∧ c ≤ maxLen ∧ (0 < n → ∃ b o, A = some ⟨b, o, none⟩ ∧ ∀ j, j < cs.length → w.cell? ⟨b, o + j, none⟩ = cs[j]?)
theorem Sl.shape {w v n cs} (h : Sl w v n cs) : ∃ A c, v = .slice A n c := by obtain ⟨A, c, e, _⟩ := h; exact ⟨A, c, e⟩
theorem Sl.len {w A l c n cs} (h : Sl w (.slice A l c) n cs) : l = n := by obtain ⟨A', c', e, _⟩ := h; injection e
theorem Sl.lim {w v n cs} (h : Sl w v n cs) : n ≤ maxLen := by obtain ⟨A, c, e, h1, h2, _⟩ := h; omega
theorem Sl.below {w w' v n cs} (h : Sl w v n cs) (hb : Below w.heap.size w w') : Sl w' v n cs := by
  obtain ⟨A, c, e, h1, h2, h3⟩ := h
  refine ⟨A, c, e, h1, h2, fun h0 => ?_⟩
  obtain ⟨b, o, hA, hc⟩ := h3 h0
  refine ⟨b, o, hA, fun j hj => ?_⟩
  have h4 := hc j hj
  rw [List.getElem?_eq_getElem hj] at h4 ⊢
  exact (hb.cell (World.block_lt_of_cell? w _ h4)).trans h4
theorem Sl.nil {w c A} (h : c ≤ maxLen) : Sl w (.slice A 0 c) 0 [] := ⟨A, c, rfl, Nat.zero_le _, h, fun h => by omega⟩
/-- Integers. -/
def i64s (xs : List Int) : List Value := xs.map fun x => .int .i64 x
theorem i64s_get {xs : List Int} {j : Nat} (h : j < xs.length) : (i64s xs)[j]? = some (.int .i64 (xs.getD j 0)) := by
  unfold i64s
  rw [List.getElem?_map, List.getElem?_eq_getElem h, List.getD_eq_getElem?_getD, List.getElem?_eq_getElem h]; rfl
theorem i64s_length (xs : List Int) : (i64s xs).length = xs.length := by simp [i64s]
def Vi (w : World) (v : Value) (xs : List Int) : Prop := Sl w v xs.length (i64s xs)
theorem Vi.below {w w' v xs} (h : Vi w v xs) (hb : Below w.heap.size w w') : Vi w' v xs := Sl.below h hb
theorem Vi.shape {w v xs} (h : Vi w v xs) : ∃ A l c, v = .slice A l c := by obtain ⟨A, c, e⟩ := Sl.shape h; exact ⟨A, _, c, e⟩
theorem Vi.len {w A l c xs} (h : Vi w (.slice A l c) xs) : l = xs.length := Sl.len h
theorem Vi.at {w A l c xs} (h : Vi w (.slice A l c) xs) (h0 : 0 < xs.length) : ∃ b o, A = some ⟨b, o, none⟩ ∧ ∀ j, j < xs.length → w.cell? ⟨b, o + j, none⟩ = some (.int .i64 (xs.getD j 0)) := by
  obtain ⟨A', c', e, h1, h2, h3⟩ := h
  injection e with e1 e2 e3; subst e1
  obtain ⟨b, o, hA, hc⟩ := h3 h0
  exact ⟨b, o, hA, fun j hj => (hc j (by rw [i64s_length]; exact hj)).trans (i64s_get hj)⟩
theorem Vi.lim {w v xs} (h : Vi w v xs) : xs.length ≤ 9223372036854775807 := by have := Sl.lim h; unfold maxLen at this; omega
theorem Vi.nil {w c A} (h : c ≤ maxLen) : Vi w (.slice A 0 c) [] := Sl.nil h
/-- A line. -/
structure Ln where
  f : Int
  t : Int
  x : Int
  c : Int
def Ln.cs (l : Ln) : List Value := [.int .i64 l.f, .int .i64 l.t, .int .i64 l.x, .int .i64 l.c]
def Ln.v (l : Ln) : Value := .agg #[.int .i64 l.f, .int .i64 l.t, .int .i64 l.x, .int .i64 l.c]
def Ln.zero : Ln := ⟨0, 0, 0, 0⟩
def lcs (l : List Ln) : List Value := l.flatMap Ln.cs
theorem lcs_length (l : List Ln) : (lcs l).length = l.length * 4 := by
  induction l with
  | nil => rfl
  | cons x r ih => simp only [lcs, List.flatMap_cons, List.length_append, List.length_cons] at *; rw [ih]; simp [Ln.cs]; omega
theorem lcs_get : ∀ (l : List Ln) (j i : Nat), j < l.length → i < 4 → (lcs l)[j * 4 + i]? = ((l.getD j Ln.zero).cs)[i]? := by
  intro l
  induction l with
  | nil => intro j i h; simp at h
  | cons x r ih =>
    intro j i h hi
    cases j with
    | zero =>
      simp only [lcs, List.flatMap_cons, Nat.zero_mul, Nat.zero_add, List.getD_cons_zero]
      rw [List.getElem?_append_left (by simp [Ln.cs]; omega)]
    | succ j =>
      have := ih j i (by simpa using h) hi
      simp only [lcs, List.flatMap_cons, List.getD_cons_succ] at *
      rw [List.getElem?_append_right (by simp [Ln.cs]; omega), ← this]
      congr 1
      simp [Ln.cs]; omega
def Vl (w : World) (v : Value) (ls : List Ln) : Prop := Sl w v ls.length (lcs ls)
theorem Vl.below {w w' v ls} (h : Vl w v ls) (hb : Below w.heap.size w w') : Vl w' v ls := Sl.below h hb
theorem Vl.shape {w v ls} (h : Vl w v ls) : ∃ A l c, v = .slice A l c := by obtain ⟨A, c, e⟩ := Sl.shape h; exact ⟨A, _, c, e⟩
theorem Vl.len {w A l c ls} (h : Vl w (.slice A l c) ls) : l = ls.length := Sl.len h
theorem Vl.at {w A l c ls} (h : Vl w (.slice A l c) ls) (h0 : 0 < ls.length) : ∃ b o, A = some ⟨b, o, none⟩ ∧ ∀ j, j < ls.length → w.cell? ⟨b, o + j * 4, none⟩ = some (.int .i64 (ls.getD j Ln.zero).f) ∧ w.cell? ⟨b, o + j * 4 + 1, none⟩ = some (.int .i64 (ls.getD j Ln.zero).t) ∧ w.cell? ⟨b, o + j * 4 + 2, none⟩ = some (.int .i64 (ls.getD j Ln.zero).x) ∧ w.cell? ⟨b, o + j * 4 + 3, none⟩ = some (.int .i64 (ls.getD j Ln.zero).c) := by
  obtain ⟨A', c', e, h1, h2, h3⟩ := h
  injection e with e1 e2 e3; subst e1
  obtain ⟨b, o, hA, hc⟩ := h3 h0
  refine ⟨b, o, hA, fun j hj => ?_⟩
  have g := fun i (hi : i < 4) => (hc (j * 4 + i) (by rw [lcs_length]; omega)).trans (lcs_get ls j i hj hi)
  exact ⟨g 0 (by omega), g 1 (by omega), g 2 (by omega), g 3 (by omega)⟩
theorem Vl.lim {w v ls} (h : Vl w v ls) : ls.length ≤ 9223372036854775807 := by have := Sl.lim h; unfold maxLen at this; omega
/-- The call returns a value, and what was there is as it was. -/
def RetO (w : World) (v : Value) : Ending → World → Prop := fun e w' => e = .returned v ∧ Below w.heap.size w w'
/-- Strictly rising from above k. -/
def risesL : Int → List Int → Bool
  | _, [] => true
  | k, x :: r => if x ≤ k then false else risesL x r
theorem nan1_c (w : World) (x : Int) : Calls Tryz.prog 258 #[.int .i64 x] w fun e w' => e = .returned (.bool false) ∧ w' = w := by
  go_enter Tryz.func258, Tryz.ntmps258
  go_wp2
  go_ret
  exact ⟨rfl, rfl⟩
theorem nan2_c (w : World) (x : Int) : Calls Tryz.prog 252 #[.int .i64 x] w fun e w' => e = .returned (.bool false) ∧ w' = w := by
  go_enter Tryz.func252, Tryz.ntmps252
  go_wp2
  go_ret
  exact ⟨rfl, rfl⟩
theorem less_c (w : World) (x y : Int) : Calls Tryz.prog 251 #[.int .i64 x, .int .i64 y] w fun e w' => e = .returned (.bool (decide (x < y))) ∧ w' = w := by
  go_enter Tryz.func251, Tryz.ntmps251
  go_wp2_with (go_at_call 258; (with_reducible refine Calls.mono (nan1_c _ _) ?_); rintro e w1 ⟨rfl, rfl⟩)
  go_ret
  exact ⟨rfl, rfl⟩
set_option maxHeartbeats 1000000 in
theorem rises_c {w v xs} (h : Vi w v xs) : Calls Tryz.prog 138 #[v] w fun e w' => e = .returned (.bool (risesL (-1) xs)) ∧ w' = w := by
  obtain ⟨A, l, c, rfl⟩ := h.shape
  have hl := h.len
  subst hl
  have hm := h.lim
  go_enter Tryz.func138, Tryz.ntmps138
  go_wp2
  go_loopw [3, 8] (fun lv iv wr => ∃ (k : Nat) (z : Int), k ≤ xs.length ∧ iv = .int .i64 (k : Int) ∧ lv = .int .i64 z ∧ wr = w ∧ risesL (-1) xs = risesL z (xs.drop k)) (fun _ iv _ => xs.length - (intOf iv).toNat)
  case atStart => exact ⟨0, -1, Nat.zero_le _, rfl, rfl, rfl, by simp⟩
  case round =>
    obtain ⟨k, z, hk, rfl, rfl, rfl, hr⟩ := hrel
    by_cases hlt : k < xs.length
    · obtain ⟨b, o, rfl, hc⟩ := h.at (by omega)
      have c1 := hc k hlt
      have hd : xs.drop k = xs.getD k 0 :: xs.drop (k + 1) := by
        rw [List.drop_eq_getElem_cons hlt, List.getD_eq_getElem?_getD, List.getElem?_eq_getElem hlt]; rfl
      obtain ⟨y, hy⟩ : ∃ y, y = xs.getD k 0 := ⟨_, rfl⟩
      rw [hd, ← hy] at hr
      rw [← hy] at c1
      have HR := Lib.hid hr
      clear hc hd hr hy
      by_cases hle : y ≤ z
      · go_wp2
        go_ret
        rw [HR.out]; simp [risesL, hle]
      · go_wp2
        refine ⟨⟨k + 1, y, by omega, val_int (by omega), rfl, ?_⟩, by simp [intOf]; omega⟩
        refine ⟨trivial, ?_⟩
        rw [HR.out]; simp [risesL, hle]
    · obtain rfl : k = xs.length := by omega
      rw [List.drop_length] at hr
      go_wp2
      go_ret
      simp [hr, risesL]
end Go.Proofs.YtdkfdamihnieiaaGreat
end
