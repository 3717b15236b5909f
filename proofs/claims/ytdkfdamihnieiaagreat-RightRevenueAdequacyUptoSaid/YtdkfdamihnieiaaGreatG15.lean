/- A region that draws its order: a part that is free, then a tail that stands in its order. -/
import Derived.Test.YtdkfdamihnieiaaGreatG11
import Derived.Test.YtdkfdamihnieiaaGreatG14
import Derived.RangeFuncNested
set_option linter.unusedSimpArgs false
set_option linter.unusedVariables false
section
open Go Go.RowKit Go.Shelf
namespace Go.Proofs.YtdkfdamihnieiaaGreat
open Go.Proofs
section
variable {F : Fence} {n : Nat} {P : Program} {ops : Array Oper} {Q : Exit → Act → World → Prop}
def predsOf (ops : Array Oper) (j : Nat) : List Nat := match ops[j]? with | some o => (o.after.toList.filter (Region.binds .any)).map (·.on) | none => []
/-- What lies behind. -/
def behind (ops : Array Oper) : Nat → List Nat → List Nat
  | 0, S => S
  | f + 1, S => behind ops f (S ++ S.flatMap (predsOf ops)).eraseDups
/-- The tail stands in its order, behind all the rest. -/
def tailOk (ops : Array Oper) (m : Nat) : Bool := (List.range ops.size).all fun j => j < m || (List.range j).all fun k => (behind ops ops.size (predsOf ops j)).contains k
theorem behind_dn {L : Array Bool} (hc : Clos .any ops L) : ∀ f S, (∀ i ∈ S, dn L i) → ∀ k ∈ behind ops f S, dn L k := by
  intro f
  induction f with
  | zero => intro S h k hk; exact h k hk
  | succ f ih =>
    intro S h k hk
    refine ih _ (fun i hi => ?_) k hk
    rw [List.mem_eraseDups] at hi
    rcases List.mem_append.1 hi with hi | hi
    · exact h i hi
    · obtain ⟨x, hx, hi⟩ := List.mem_flatMap.1 hi
      unfold predsOf at hi
      cases ho : ops[x]? with
      | none => rw [ho] at hi; cases hi
      | some o =>
        rw [ho] at hi
        simp only [List.mem_map, List.mem_filter, Array.mem_toList_iff] at hi
        obtain ⟨e, ⟨he, hb⟩, rfl⟩ := hi
        exact hc.dn ho (h x hx) e he hb
theorem tail_dn {L : Array Bool} {m j : Nat} {o : Oper} (ht : tailOk ops m = true) (hc : Clos .any ops L) (ho : ops[j]? = some o) (hj : m ≤ j) (hp : ∀ e ∈ o.after, Region.binds .any e = true → dn L e.on) : ∀ k, k < j → dn L k := by
  intro k hk
  unfold tailOk at ht
  have := List.all_eq_true.1 ht j (List.mem_range.2 (Array.getElem?_eq_some_iff.1 ho).1)
  simp only [Bool.or_eq_true, decide_eq_true_eq] at this
  rcases this with h | h
  · omega
  · have h2 := List.all_eq_true.1 h k (List.mem_range.2 hk)
    rw [List.contains_iff_mem] at h2
    refine behind_dn hc _ _ (fun i hi => ?_) k h2
    unfold predsOf at hi
    rw [ho] at hi
    simp only [List.mem_map, List.mem_filter, Array.mem_toList_iff] at hi
    obtain ⟨e, ⟨he, hb⟩, rfl⟩ := hi
    exact hp e he hb
/-- The tail, in order. -/
def wpTail (F : Fence) (n : Nat) (P : Program) (ops : Array Oper) (Q : Exit → Act → World → Prop) : Nat → Nat → Act → World → Prop
  | _, 0 => fun a w => Q .normal a w
  | i, c + 1 => fun a w => wpOpIn F n P ops Q i (wpTail F n P ops Q (i + 1) c) a w
theorem wpTail_step {i i' c : Nat} {a : Act} {w : World} (hi : i + 1 = i') (h : wpOpIn F n P ops Q i (wpTail F n P ops Q i' c) a w) : wpTail F n P ops Q i (c + 1) a w := by subst hi; exact h
theorem wpTail_end {i : Nat} {a : Act} {w : World} (h : Q .normal a w) : wpTail F n P ops Q i 0 a w := h
theorem dn_set {L : Array Bool} {j : Nat} (hj : j < L.size) : dn (L.setIfInBounds j true) = fun k => k = j ∨ dn L k := by
  funext k
  by_cases h : k = j
  · subst h; rw [dn_self hj]; simp
  · rw [dn_ne (fun e => h e.symm)]; simp [h]
theorem wpIn_region_T {id : Nat} {a : Act} {w : World} (hm : P.follows .mixedOrders = true) (hac : edgesBack ops = true) (m c : Nat) (hsz : ops.size = m + c) (ht : tailOk ops m = true)
    (mk : (Nat → Value) → Act) (u0 : Nat → Value) (ha : a = mk u0)
    (Inv : (Nat → Prop) → (Nat → Value) → World → Prop) (start : Inv (fun _ => False) u0 w.drew)
    (step : ∀ (D : Nat → Prop) (u : Nat → Value) (w' : World) (j : Nat) (o : Oper), j < m → ops[j]? = some o → ¬ D j → (∀ e ∈ o.after, Region.binds .any e = true → D e.on) → (∀ k o', ops[k]? = some o' → D k → ∀ e ∈ o'.after, Region.binds .any e = true → D e.on) → (∀ k, D k → k < m) → Inv D u w' → wpOpIn F n P ops Q j (fun a' w2 => ∃ v, a' = mk (upd u j v) ∧ Inv (fun k => k = j ∨ D k) (upd u j v) w2) (mk u) w')
    (fin : ∀ (u : Nat → Value) (w' : World), Inv (fun k => k < m) u w' → wpTail F n P ops Q m c (mk u) w') :
    (Code.region id ops true).wpIn F n P Q a w := by
  subst ha
  refine wpIn_region_inv hm (I := fun L a w' => ((∀ k, dn L k → k < m) ∧ ∃ u, a = mk u ∧ Inv (dn L) u w') ∨ (∃ d, 0 < d ∧ d ≤ c ∧ (∀ k, dn L k ↔ k < m + d) ∧ wpTail F n P ops Q (m + d) (c - d) a w')) hac (.inl ⟨fun k h => by rw [dn_start] at h; exact h.elim, u0, rfl, ?_⟩) ?_ ?_
  · rw [show dn (Array.replicate ops.size false) = fun _ => False from funext fun k => dn_start]; exact start
  · intro L a w' j o hs hcl hI hj ho hpre
    obtain ⟨hjf, hjl⟩ := not_dn hj
    have hjs : j < m + c := by rw [← hsz]; exact (Array.getElem?_eq_some_iff.1 ho).1
    rcases hI with ⟨hlt, u, rfl, hInv⟩ | ⟨d, hd0, hdc, hdn, hT⟩
    · by_cases hjm : j < m
      · refine wpOpIn_mono (fun a' w2 h => ?_) (step (dn L) u w' j o hjm ho hjf hpre (fun k o' hk hd => hcl.dn hk hd) hlt hInv)
        obtain ⟨v, rfl, hI2⟩ := h
        refine .inl ⟨fun k hk => ?_, _, rfl, ?_⟩
        · rw [dn_set hjl] at hk
          rcases hk with rfl | hk
          · exact hjm
          · exact hlt k hk
        · rw [dn_set hjl]; exact hI2
      · have hall := tail_dn ht hcl ho (by omega) hpre
        obtain rfl : j = m := by
          rcases Nat.lt_or_ge m j with h | h
          · have := hlt m (hall m h); omega
          · omega
        have he : dn L = fun k => k < j := funext fun k => propext ⟨hlt k, fun h => hall k h⟩
        rw [he] at hInv
        have hf := fin u w' hInv
        obtain ⟨c', rfl⟩ : ∃ c', c = c' + 1 := ⟨c - 1, by omega⟩
        refine wpOpIn_mono (fun a' w2 h => .inr ⟨1, by omega, by omega, fun k => ?_, h⟩) hf
        rw [dn_set hjl, he]
        constructor
        · rintro (rfl | h) <;> omega
        · intro h; show k = j ∨ k < j; omega
    · have hall := tail_dn ht hcl ho (by
        rcases Nat.lt_or_ge j m with h | h
        · exact absurd ((hdn j).2 (by omega)) hjf
        · exact h) hpre
      obtain rfl : j = m + d := by
        rcases Nat.lt_trichotomy j (m + d) with h | h | h
        · exact absurd ((hdn j).2 h) hjf
        · exact h
        · have := (hdn (m + d)).1 (hall _ h); omega
      obtain ⟨c', hc'⟩ : ∃ c', c - d = c' + 1 := ⟨c - d - 1, by omega⟩
      rw [hc'] at hT
      refine wpOpIn_mono (fun a' w2 h => .inr ⟨d + 1, by omega, by omega, fun k => ?_, ?_⟩) hT
      · rw [dn_set hjl]
        constructor
        · rintro (rfl | h)
          · omega
          · have := (hdn k).1 h; omega
        · intro h
          show k = m + d ∨ dn L k
          rcases Nat.lt_or_ge k (m + d) with h2 | h2
          · exact .inr ((hdn k).2 h2)
          · exact .inl (by omega)
      · rw [show c - (d + 1) = c' by omega]; exact h
  · intro L a w' hI hall
    rcases hI with ⟨hlt, u, rfl, hInv⟩ | ⟨d, hd0, hdc, hdn, hT⟩
    · have hc0 : c = 0 := by
        rcases Nat.eq_zero_or_pos c with h | h
        · exact h
        · have := hlt m (hall m (by omega)); omega
      subst hc0
      have he : dn L = fun k => k < m := funext fun k => propext ⟨hlt k, fun h => hall k (by omega)⟩
      rw [he] at hInv
      exact fin u w' hInv
    · rcases Nat.lt_or_ge d c with h | h
      · have := (hdn (m + d)).1 (hall _ (by omega)); omega
      · rw [show c - d = 0 by omega] at hT; exact hT
/-- The same, by what each operation yields. -/
theorem wpIn_region_Y {id : Nat} {a : Act} {w : World} (hm : P.follows .mixedOrders = true) (hac : edgesBack ops = true) (m c : Nat) (hsz : ops.size = m + c) (ht : tailOk ops m = true)
    (mk : (Nat → Value) → Act) (u0 : Nat → Value) (ha : a = mk u0)
    (R : World → World → Prop) (hrefl : ∀ w, R w w) (htrans : ∀ {w1 w2 w3}, R w1 w2 → R w2 w3 → R w1 w3)
    (Y : Nat → Value → World → Prop) (hY : ∀ k v w w', Y k v w → R w w' → Y k v w')
    (step : ∀ (u : Nat → Value) (w' : World) (j : Nat) (o : Oper), j < m → ops[j]? = some o → R w.drew w' → (∀ e ∈ o.after, Region.binds .any e = true → Y e.on (u e.on) w') → wpOpIn F n P ops Q j (fun a' w2 => ∃ v, a' = mk (upd u j v) ∧ R w' w2 ∧ Y j v w2) (mk u) w')
    (fin : ∀ (u : Nat → Value) (w' : World), R w.drew w' → (∀ k, k < m → Y k (u k) w') → wpTail F n P ops Q m c (mk u) w') :
    (Code.region id ops true).wpIn F n P Q a w := by
  refine wpIn_region_T hm hac m c hsz ht mk u0 ha (fun D u w' => R w.drew w' ∧ ∀ k, D k → Y k (u k) w') ⟨hrefl _, fun k h => h.elim⟩ ?_ (fun u w' h => fin u w' h.1 h.2)
  intro D u w' j o hjm ho hjf hpre _ _ ⟨hR, hu⟩
  refine wpOpIn_mono (fun a' w2 h => ?_) (step u w' j o hjm ho hR (fun e he hb => hu e.on (hpre e he hb)))
  obtain ⟨v, rfl, hR2, hY2⟩ := h
  refine ⟨v, rfl, htrans hR hR2, fun k hk => ?_⟩
  by_cases hkj : k = j
  · subst hkj; simpa [upd] using hY2
  · rcases hk with hk | hk
    · exact absurd hk hkj
    · simpa [upd, hkj] using hY k _ w' w2 (hu k hk) hR2
/-- The same, with what else holds. -/
theorem wpIn_region_G {id : Nat} {a : Act} {w : World} (hm : P.follows .mixedOrders = true) (hac : edgesBack ops = true) (m c : Nat) (hsz : ops.size = m + c) (ht : tailOk ops m = true)
    (mk : (Nat → Value) → Act) (u0 : Nat → Value) (ha : a = mk u0)
    (R : World → World → Prop) (hrefl : ∀ w, R w w) (htrans : ∀ {w1 w2 w3}, R w1 w2 → R w2 w3 → R w1 w3)
    (Y : Nat → Value → World → Prop) (hY : ∀ k v w w', Y k v w → R w w' → Y k v w') (G : (Nat → Prop) → (Nat → Value) → World → Prop) (hG : G (fun _ => False) u0 w.drew)
    (step : ∀ (D : Nat → Prop) (u : Nat → Value) (w' : World) (j : Nat) (o : Oper), j < m → ops[j]? = some o → ¬ D j → (∀ k o', ops[k]? = some o' → D k → ∀ e ∈ o'.after, Region.binds .any e = true → D e.on) → (∀ e ∈ o.after, Region.binds .any e = true → D e.on ∧ Y e.on (u e.on) w') → R w.drew w' → G D u w' → wpOpIn F n P ops Q j (fun a' w2 => ∃ v, a' = mk (upd u j v) ∧ R w' w2 ∧ Y j v w2 ∧ G (fun k => k = j ∨ D k) (upd u j v) w2) (mk u) w')
    (fin : ∀ (u : Nat → Value) (w' : World), R w.drew w' → (∀ k, k < m → Y k (u k) w') → G (fun k => k < m) u w' → wpTail F n P ops Q m c (mk u) w') :
    (Code.region id ops true).wpIn F n P Q a w := by
  refine wpIn_region_T hm hac m c hsz ht mk u0 ha (fun D u w' => R w.drew w' ∧ (∀ k, D k → Y k (u k) w') ∧ G D u w') ⟨hrefl _, fun k h => h.elim, hG⟩ ?_ (fun u w' h => fin u w' h.1 h.2.1 h.2.2)
  intro D u w' j o hjm ho hjf hpre hcl _ ⟨hR, hu, hg⟩
  refine wpOpIn_mono (fun a' w2 h => ?_) (step D u w' j o hjm ho hjf hcl (fun e he hb => ⟨hpre e he hb, hu e.on (hpre e he hb)⟩) hR hg)
  obtain ⟨v, rfl, hR2, hY2, hG2⟩ := h
  refine ⟨v, rfl, htrans hR hR2, fun k hk => ?_, hG2⟩
  by_cases hkj : k = j
  · subst hkj; simpa [upd] using hY2
  · rcases hk with hk | hk
    · exact absurd hk hkj
    · simpa [upd, hkj] using hY k _ w' w2 (hu k hk) hR2
end
end Go.Proofs.YtdkfdamihnieiaaGreat
end
section
/- Contracts of package vec, part 14: adder. -/
open Go Go.RowKit Go.Shelf
namespace Go.Proofs.YtdkfdamihnieiaaGreat
open Go.Proofs
theorem adder_c (w : World) : Calls Tryz.prog 115 #[] w fun e w' => e = .returned (.func (.func 183) #[] #[.pointer (some ⟨w.heap.size, 0, none⟩)]) ∧ w' = w.alloc Qx.zero.o := by
  go_enter Tryz.func115, Tryz.ntmps115
  go_wp2
  go_ret
  exact ⟨rfl, rfl⟩
set_option maxRecDepth 100000 in
set_option maxHeartbeats 1000000 in
theorem adder1_c {ok1 ok2 : Nat → Prop} {w : World} {S : Nat} {va : Value} {x r : Rat} {A B : Nat} {y : Qx} (hx : isQ ok1 w va x A) (hr : isQ ok2 w y.v r B) (hS : Blk w S 44 y.cs) (hA0 : 0 < A) (hA : A ≤ 400000000) (hB0 : 0 < B) (hB : B ≤ 400000000) :
    Calls Tryz.prog 183 #[va, .pointer (some ⟨S, 0, none⟩)] w fun e w' => ∃ (z : Qx) (w1 : World), e = .returned z.v ∧ Below w.heap.size w w1 ∧ w.heap.size + 1 < w1.heap.size ∧ w' = st4 (st4 w1 S 0 z) (w.heap.size + 1) 0 z ∧ isQc (fun b => w.heap.size + 2 ≤ b) w1 z.v (r + x) ∧ Blk w1 (w.heap.size + 1) 44 Qx.zero.cs := by
  obtain ⟨n1, A1, l1, c1, m1, D1, e1, g1, rfl⟩ := hx.shape
  obtain ⟨yn, ys, ym, yt⟩ := y
  obtain ⟨⟨A2, l2, c2, e⟩, D2, e2, g2, e'⟩ := isQ.slices hr
  simp only at e e'
  subst e e'
  simp only [Qx.cs, Qx.v] at hS hr
  have hlt := hS.lt
  have s0 := hS.cell 0
  have s1 := hS.cell 1
  have s2 := hS.cell 2
  have s3 := hS.cell 3
  have sf := fun j => hS.frozen j
  simp only [List.getElem?_cons_zero, List.getElem?_cons_succ] at s0 s1 s2 s3
  have HS := Lib.hid hS
  have hne : w.heap.size ≠ S := by omega
  have hne1 : w.heap.size + 1 ≠ S := by omega
  clear hS
  obtain ⟨z0, z1, _⟩ := z2 w.heap.size
  go_enter Tryz.func183, Tryz.ntmps183
  go_wp2_with (go_at_call 29; (with_reducible refine Calls.mono (add_q (hr.below (bal (bal (b0 _)))) (hx.below (bal (bal (b0 _)))) hB0 hA0 hB hA) ?_); rintro e w1 ⟨n3, A3, l3, c3, m3, D3, e3, g3, rfl, hb1, hr3⟩; have B1 := Bx.step (Bx.refl (n := w.heap.size + 2) ((w.alloc (Obj.cells #[Value.bool n1, .slice A1 l1 c1, .bool m1, .slice D1 e1 g1] 44)).alloc (Obj.cells #[Value.bool false, .slice none 0 0, .bool false, .slice none 0 0] 44)) (by simp)) hb1; have k1 := B1.cell; have f1 := B1.frozen; have HBS := HS.out.below (bthen (bal (bal (b0 w))) hb1); have t0 := HBS.cell 0; have t1 := HBS.cell 1; have t2 := HBS.cell 2; have t3 := HBS.cell 3; have tf := fun j => HBS.frozen j; simp only [List.getElem?_cons_zero, List.getElem?_cons_succ] at t0 t1 t2 t3; have HZ := Lib.hid HBS; clear HBS)
  trace_state
  refine bodyPost_ret (v := .agg #[.bool n3, .slice A3 l3 c3, .bool m3, .slice D3 e3 g3]) ?_ rfl ?_
  · simp [results, Tryz.results183, go_sem, k1]
  · refine ⟨⟨n3, .slice A3 l3 c3, m3, .slice D3 e3 g3⟩, w1, rfl, bthen (bal (bal (b0 _))) hb1, ?_, rfl, ?_, ?_⟩
    · have := hb1.size; simp at this; omega
    · exact hr3.mono (fun b _ hb => by simp [fresh] at hb; omega)
    · exact Blk.below (Blk.new4 (by simp)) hb1
end Go.Proofs.YtdkfdamihnieiaaGreat
end
section
/- Contracts of package vec, part 15: Dot. -/
open Go Go.RowKit Go.Shelf
namespace Go.Proofs.YtdkfdamihnieiaaGreat
open Go.Proofs
attribute [local go_sem] Oper.semAt_some wide_fn wide_depth
/-- The inner product. -/
def dotL (R : Nat → Rat) (l : List Nat) : Rat := (l.map R).foldl (· + ·) 0
theorem dotL_snoc (R : Nat → Rat) (l : List Nat) (k : Nat) : dotL R (l ++ [k]) = dotL R l + R k := by simp [dotL]
def dotq (a b : List Rat) : Rat := dotL (fun k => a.getD k 0 * b.getD k 0) (List.range (max a.length b.length))
theorem dotL_size {R : Nat → Rat} {B : Nat} (h : ∀ k, qB (R k) B) : ∀ l : List Nat, qB (dotL R l) (l.length * (B + 1) + 1) := by
  suffices ∀ (l : List Nat) (a : Rat) (n : Nat), qB a n → qB ((l.map R).foldl (· + ·) a) (n + l.length * (B + 1)) from fun l => (this l 0 1 (qB_zero (by omega))).mono (by omega)
  intro l
  induction l with
  | nil => intro a n h; simpa using h
  | cons k l ih =>
    intro a n ha
    refine (ih (a + R k) (n + B + 1) (qB_add ha (h k))).mono ?_
    rw [List.length_cons, Nat.add_mul, Nat.one_mul]; omega
structure DotI (w : World) (fv : Value) (r : Rat) (W : World) (x y : Qx) : Prop where
  bx : Blk W w.heap.size 44 x.cs
  ex : cq W x.v r
  bys : Blk W (w.heap.size + 1) 44 y.cs
  ey : cq W y.v r
  fb : Blk W (w.heap.size + 1 + 1) 47 [fv]
  below : Below w.heap.size w W
  size : w.heap.size + 5 ≤ W.heap.size
theorem blk_grown {w W' : World} {b : Nat} {T : TypeId} {cs : List Value} {row : Option Nat} (h : Blk w b T cs) (hg : w.grownBy W' row) (hr : ∀ r, row = some r → ∃ o : Obj, w.heap[r]? = some o ∧ o.isCells = false) : Blk W' b T cs := box8_from h hg hr
theorem DotI.grown {w fv r W W' x y} {row : Option Nat} (H : DotI w fv r W x y) (hg : W.grownBy W' row) (hr : ∀ r, row = some r → w.heap.size + 4 ≤ r ∧ ∃ o : Obj, W.heap[r]? = some o ∧ o.isCells = false) : DotI w fv r W' x y := by
  have hr2 : ∀ r, row = some r → ∃ o : Obj, W.heap[r]? = some o ∧ o.isCells = false := fun r e => (hr r e).2
  exact ⟨blk_grown H.bx hg hr2, isQc.grown H.ex hg hr2, blk_grown H.bys hg hr2, isQc.grown H.ey hg hr2, blk_grown H.fb hg hr2, below_from H.below (B := w.heap.size) (Nat.le_refl _) (Nat.le_trans (by omega) H.size) hg (fun r e => by have := (hr r e).1; omega), Nat.le_trans H.size hg.size⟩
theorem four0 {W : World} {b : Nat} {T : TypeId} {y : Qx} (h : Blk W b T y.cs) (hs : (∃ A l c, y.s = .slice A l c) ∧ (∃ A l c, y.t = .slice A l c)) : ∃ n A l c m D l2 c2, W.cell? ⟨b, 0, none⟩ = some (.bool n) ∧ W.cell? ⟨b, 0 + 1, none⟩ = some (.slice A l c) ∧ W.cell? ⟨b, 0 + 2, none⟩ = some (.bool m) ∧ W.cell? ⟨b, 0 + 3, none⟩ = some (.slice D l2 c2) := by
  obtain ⟨n, s, m, t⟩ := y
  obtain ⟨⟨A, l, c, e1⟩, D, l2, c2, e2⟩ := hs
  simp only at e1 e2
  subst e1 e2
  exact ⟨_, _, _, _, _, _, _, _, h.cell 0, h.cell 1, h.cell 2, h.cell 3⟩
theorem st4_blk0 {W : World} {b : Nat} {T : TypeId} {y z : Qx} (h : Blk W b T y.cs) : Blk (st4 W b 0 z) b T z.cs := (((h.set 0 _).set 1 _).set 2 _).set 3 _
theorem st4_el0 {E : Elt} (hE : Stable E) {W : World} {b : Nat} {T : TypeId} {y z : Qx} (h : Blk W b T y.cs) (hs : (∃ A l c, y.s = .slice A l c) ∧ (∃ A l c, y.t = .slice A l c)) {v : Value} {q : Rat} (hv : E W v q) : E (st4 W b 0 z) v q := by
  obtain ⟨n, A, l, c, m, D, l2, c2, h⟩ := four0 h hs
  exact hE.set4 hv h
theorem Qx.zero_sl : (∃ A l c, Qx.zero.s = .slice A l c) ∧ (∃ A l c, Qx.zero.t = .slice A l c) := ⟨⟨_, _, _, rfl⟩, _, _, _, rfl⟩
theorem st4_belowB {N : Nat} {a W : World} (h : Below N a W) {b o : Nat} {y : Qx} (hb : N ≤ b) : Below N a (st4 W b o y) := (((h.setCell (p := ⟨b, o, none⟩) hb _).setCell (p := ⟨b, o + 1, none⟩) hb _).setCell (p := ⟨b, o + 2, none⟩) hb _).setCell (p := ⟨b, o + 3, none⟩) hb _
theorem st4_heap {W : World} {b o k : Nat} {y : Qx} (h : k ≠ b) : (st4 W b o y).heap[k]? = W.heap[k]? := (Below.heap_setCell _ ⟨b, o + 3, none⟩ _ _ h).trans ((Below.heap_setCell _ ⟨b, o + 2, none⟩ _ _ h).trans ((Below.heap_setCell _ ⟨b, o + 1, none⟩ _ _ h).trans (Below.heap_setCell _ ⟨b, o, none⟩ _ _ h)))
theorem keeps_st4 {A W : World} (h : KeepsOthers A W) {b o : Nat} {y : Qx} : KeepsOthers A (st4 W b o y) := (((h.trans (KeepsOthers.setCell _ _ _)).trans (KeepsOthers.setCell _ _ _)).trans (KeepsOthers.setCell _ _ _)).trans (KeepsOthers.setCell _ _ _)
set_option maxRecDepth 100000 in
set_option maxHeartbeats 4000000 in
theorem dot_c {n0 B : Nat} {w : World} {va vb : Value} {qa qb : List Rat} (ha : Vq n0 (rq B) w va qa) (hb : Vq n0 (rq B) w vb qb) (hB0 : 0 < B) (hB : B ≤ 100000000) (hS : max qa.length qb.length * (2 * B + 1) + 1 ≤ 400000000) :
    Calls Tryz.prog 47 #[va, vb] w (RetQ w (fun _ => True) (dotq qa qb)) := by
  have hE := rq_ratl hB0
  have hE2 : ∀ {W v q}, isQ (fun _ => True) W v q B → qB q B := fun h => h.size hB0
  have hE3 : ∀ {W v q}, rq B W v q → qB q B := fun h => isQ.size h hB0
  obtain ⟨f, hva⟩ := ha.view hE
  obtain ⟨g, hvb⟩ := hb.view hE
  have shF := fun j => Qx.shape (hE.slices (hva.el j))
  have shG := fun j => Qx.shape (hE.slices (hvb.el j))
  obtain ⟨A1, l1, c1, rfl⟩ := ha.shape
  obtain ⟨A2, l2, c2, rfl⟩ := hb.shape
  refine (callsIn_wide (n := 10)).1 ?_
  refine callsIn_of_wp_marks Tryz.func47 rfl trivial ?_ rfl
  simp only [Tryz.ntmps47, List.size_toArray, List.length_cons, List.length_nil, Nat.reduceAdd, Nat.reduceSub, Array.replicate_succ, Array.replicate_zero, List.push_toArray, List.append_toArray, List.nil_append, List.cons_append]
  gi_wp2_with (first
    | (gi_at_call 115; (with_reducible refine CallsIn.mono (callsIn_wide.2 (adder_c _)) ?_); rintro e w' ⟨rfl, rfl⟩)
    | (gi_at_call 116; (with_reducible refine CallsIn.mono (callsIn_wide.2 both_c) ?_); rintro e w' ⟨rfl, rfl⟩))
  have hBa1 : ((((((w.alloc (Obj.cells #[Value.bool false, Value.slice none 0 0, Value.bool false, Value.slice none 0 0] 44)).alloc Qx.zero.o).alloc (Obj.cells #[(.func (.func 183) #[] #[.pointer (some ⟨w.heap.size + 1, 0, none⟩)])] 47)).alloc (Obj.cells #[Value.slice A1 l1 c1] 26)).alloc (Obj.cells #[Value.slice A2 l2 c2] 26)).heap.size) = w.heap.size + 1 + 1 + 1 + 1 + 1 := by simp
  refine' wpIn_rangeFunc_ownH rfl (by omega) (gf := 184) (lb := #[.pointer (some ⟨w.heap.size + 1 + 1 + 1, 0, none⟩), .pointer (some ⟨w.heap.size + 1 + 1 + 1 + 1, 0, none⟩)]) rfl trivial (enters_of Tryz.func184 (by kernel_rfl) rfl)
    (both_stops (n := 9) (by omega) hE hva hvb ?p1 ?p2 ?p3)
    KB.trans ?p5 (Below.refl _ _) (fun _ => rfl)
    (fun pre W => ∃ y z, DotI w (.func (.func 183) #[] #[.pointer (some ⟨w.heap.size + 1, 0, none⟩)]) (dotL (fun k => qa.getD k 0 * qb.getD k 0) (pre.map fun x => x.val)) W y z)
    (fun _ _ _ => False) ?p6 (fun _ _ _ _ _ hs _ _ => hs) ?p7 (fun x a' W => ∃ b8, w.heap.size + 5 ≤ b8 ∧ a' = { tmps := #[.slice A1 l1 c1, .slice A2 l2 c2, undef, undef, .pointer (some ⟨w.heap.size, 0, none⟩), .pointer (some ⟨w.heap.size + 1 + 1, 0, none⟩), undef, .pointer (some ⟨b8, 0, none⟩), (.func (.func 183) #[] #[.pointer (some ⟨w.heap.size + 1, 0, none⟩)]), .slice A1 l1 c1, .slice A2 l2 c2, .func (.func 184) #[] #[.pointer (some ⟨w.heap.size + 1 + 1 + 1, 0, none⟩), .pointer (some ⟨w.heap.size + 1 + 1 + 1 + 1, 0, none⟩)], .int .i64 (x.val : Int), (.agg #[.bool (f x).n, (f x).s, .bool (f x).m, (f x).t, .bool (g x).n, (g x).s, .bool (g x).m, (g x).t]), undef, undef, undef, undef, undef, undef, undef, undef], defers := [] } ∧ W.heap[b8]? = some (.cells #[.bool (f x).n, (f x).s, .bool (f x).m, (f x).t, .bool (g x).n, (g x).s, .bool (g x).m, (g x).t] 133 (0, 0)))
    ?pA ?assign ?body ?done (fun _ _ _ _ _ _ h _ => h.elim)
  case assign =>
    intro l pre x W K hI hK
    obtain ⟨y, z, HI⟩ := hI
    have hsz := HI.size
    obtain ⟨fn, ⟨fA, fl, fc⟩, fm, ⟨fB, fl2, fc2⟩, hX⟩ := shF x.val
    obtain ⟨gn, ⟨gA, gl, gc⟩, gm, ⟨gB, gl2, gc2⟩, hY⟩ := shG x.val
    simp only [pr2, hX, hY] at hK ⊢
    gi_wp2
    refine hK _ _ ?_ ?_ ⟨y, z, HI.grown (World.grownBy_alloc _ _ none) (fun r e => by cases e)⟩ ⟨W.heap.size, by omega, rfl, heap_alloc_new _ _⟩
    · exact (KeepsOthers.alloc _ _).from _
    · exact KB.of (A := W) (bal (b0 W)) (by omega) (by omega) (by omega)
  case p1 =>
    exact (Below.heap_alloc _ _ _ (by simp)).trans (new_at _ _ (by simp))
  case p2 =>
    exact new_at _ _ (by simp)
  case p3 => exact bal (bal (bal (bal (bal (b0 w)))))
  case p5 =>
    intro W l o o' hl hlo _ _
    simp at hl
    have hlt := (Array.getElem?_eq_some_iff.1 hlo).1
    exact ⟨by simp, below_putObj (Below.refl _ _) (by omega) (by omega), World.putObj_heap_other (by omega), World.putObj_heap_other (by omega)⟩
  case p6 =>
    rintro pre X Y row ⟨y, z, HI⟩ hg hr
    exact ⟨y, z, HI.grown hg (fun r e => ⟨by have := (hr r e).1; simp at this; omega, (hr r e).2⟩)⟩
  case pA =>
    rintro x a' u X Y row ⟨b8, h8, ha', hb8⟩ hg hr
    exact ⟨b8, h8, ha', box8_from hb8 hg (fun r e => (hr r e).2)⟩
  case p7 =>
    refine ⟨Qx.zero, Qx.zero, ⟨?_, cq_ratl.zero _, ?_, cq_ratl.zero _, ?_, bal (bal (bal (bal (bal (b0 w))))), by simp⟩⟩
    · exact Blk.al (Blk.al (Blk.al (Blk.al (Blk.new _ Qx.zero.cs 44 rfl))))
    · exact Blk.al (Blk.al (Blk.al (Blk.new _ Qx.zero.cs 44 (by simp))))
    · exact Blk.al (Blk.al (Blk.new _ [(.func (.func 183) #[] #[.pointer (some ⟨w.heap.size + 1, 0, none⟩)])] 47 (by simp)))
  case body =>
    rintro l pre x a' W hl hloop ⟨y, z, HI⟩ ⟨b8, h8, rfl, hb8⟩ hlen
    obtain ⟨fn, ⟨fA, fl, fc⟩, fm, ⟨fB, fl2, fc2⟩, hX⟩ := shF x.val
    obtain ⟨gn, ⟨gA, gl, gc⟩, gm, ⟨gB, gl2, gc2⟩, hY⟩ := shG x.val
    simp only [hX, hY] at hb8 ⊢
    have hpl : pre.length < max qa.length qb.length := by rw [plc_length] at hlen; exact hlen
    have elF := hva.el x.val
    have elG := hvb.el x.val
    rw [hX] at elF
    rw [hY] at elG
    simp only [Qx.v] at elF elG
    have hbW : Below w.heap.size w W := HI.below
    have hc5 : ∀ W', Below W.heap.size W W' → W'.cell? ⟨w.heap.size + 1 + 1, 0, none⟩ = some (.func (.func 183) #[] #[.pointer (some ⟨w.heap.size + 1, 0, none⟩)]) := fun W' hb => (HI.fb.below hb).cell 0
    have hc8 : ∀ W' i, Below W.heap.size W W' → W'.cell? ⟨b8, i, none⟩ = (#[Value.bool fn, .slice fA fl fc, .bool fm, .slice fB fl2 fc2, .bool gn, .slice gA gl gc, .bool gm, .slice gB gl2 gc2] : Array Value)[i]? := fun W' i hb => (World.cell?_of_block (w := W) (a := ⟨b8, i, none⟩) (hb.block b8 (Array.getElem?_eq_some_iff.1 hb8).1)).trans (cell_of_row W _ i _ 133 (0, 0) hb8)
    gi_wp2
    refine wpIn_region_Y (by kernel_rfl) (by kernel_rfl) 6 2 rfl (by kernel_rfl) (fun u => { tmps := #[.slice A1 l1 c1, .slice A2 l2 c2, undef, undef, .pointer (some ⟨w.heap.size, 0, none⟩), .pointer (some ⟨w.heap.size + 1 + 1, 0, none⟩), undef, .pointer (some ⟨b8, 0, none⟩), (.func (.func 183) #[] #[.pointer (some ⟨w.heap.size + 1, 0, none⟩)]), .slice A1 l1 c1, .slice A2 l2 c2, .func (.func 184) #[] #[.pointer (some ⟨w.heap.size + 1 + 1 + 1, 0, none⟩), .pointer (some ⟨w.heap.size + 1 + 1 + 1 + 1, 0, none⟩)], .int .i64 (x.val : Int), .agg #[.bool fn, .slice fA fl fc, .bool fm, .slice fB fl2 fc2, .bool gn, .slice gA gl gc, .bool gm, .slice gB gl2 gc2], u 0, u 1, u 2, u 3, u 4, u 5, u 6, undef], defers := [] }) (fun _ => undef) rfl (fun W1 W2 => Below W1.heap.size W1 W2) (fun _ => Below.refl _ _) (fun h1 h2 => bthen h1 h2)
      (fun k v W1 => match k with
        | 0 => v = (.func (.func 183) #[] #[.pointer (some ⟨w.heap.size + 1, 0, none⟩)])
        | 1 => v = .pointer (some ⟨b8, 0, none⟩)
        | 2 => v = .agg #[.bool fn, .slice fA fl fc, .bool fm, .slice fB fl2 fc2]
        | 3 => v = .pointer (some ⟨b8, 4, none⟩)
        | 4 => v = .agg #[.bool gn, .slice gA gl gc, .bool gm, .slice gB gl2 gc2]
        | _ => ∃ p : Qx, v = p.v ∧ isQc (fun k => W.heap.size ≤ k) W1 p.v (qa.getD x.val 0 * qb.getD x.val 0)) ?hY ?step ?fin
    case hY =>
      intro k v W1 W2 h hb
      match k, h with
      | 0, h => exact h
      | 1, h => exact h
      | 2, h => exact h
      | 3, h => exact h
      | 4, h => exact h
      | k + 5, ⟨p, e, h⟩ => exact ⟨p, e, isQc.below h hb⟩
    case step =>
      intro u W' j o hj ho hR hpre
      have hbw : Below W.heap.size W W' := bthen (bdr (b0 W)) hR
      have c5 := hc5 W' hbw
      have x0 := hc8 W' 0 hbw
      have x1 := hc8 W' 1 hbw
      have x2 := hc8 W' 2 hbw
      have x3 := hc8 W' 3 hbw
      have x4 := hc8 W' 4 hbw
      have x5 := hc8 W' 5 hbw
      have x6 := hc8 W' 6 hbw
      have x7 := hc8 W' 7 hbw
      simp only [List.getElem?_toArray, List.getElem?_cons_zero, List.getElem?_cons_succ] at x0 x1 x2 x3 x4 x5 x6 x7
      obtain rfl | rfl | rfl | rfl | rfl | rfl : j = 0 ∨ j = 1 ∨ j = 2 ∨ j = 3 ∨ j = 4 ∨ j = 5 := by omega
      · simp at ho
        subst ho
        simp [Region.binds] at hpre
        refine wpOpIn_step rfl (fun K' hK => ?_)
        simp only [Region.wanted]
        have HK := Lib.hid hK
        clear hK
        gi_wp2
        exact HK.out _ _ ⟨(.func (.func 183) #[] #[.pointer (some ⟨w.heap.size + 1, 0, none⟩)]), by simp [upd, undef, *], Below.refl _ _, rfl⟩
      · simp at ho
        subst ho
        simp [Region.binds] at hpre
        refine wpOpIn_step rfl (fun K' hK => ?_)
        simp only [Region.wanted]
        have HK := Lib.hid hK
        clear hK
        gi_wp2
        exact HK.out _ _ ⟨.pointer (some ⟨b8, 0, none⟩), by simp [upd, undef, *], Below.refl _ _, rfl⟩
      · simp at ho
        subst ho
        simp [Region.binds] at hpre
        refine wpOpIn_step rfl (fun K' hK => ?_)
        simp only [Region.wanted]
        have HK := Lib.hid hK
        clear hK
        gi_wp2
        exact HK.out _ _ ⟨.agg #[.bool fn, .slice fA fl fc, .bool fm, .slice fB fl2 fc2], by simp [upd, undef, *], Below.refl _ _, rfl⟩
      · simp at ho
        subst ho
        simp [Region.binds] at hpre
        refine wpOpIn_step rfl (fun K' hK => ?_)
        simp only [Region.wanted]
        have HK := Lib.hid hK
        clear hK
        gi_wp2
        exact HK.out _ _ ⟨.pointer (some ⟨b8, 4, none⟩), by simp [upd, undef, *], Below.refl _ _, rfl⟩
      · simp at ho
        subst ho
        simp [Region.binds] at hpre
        refine wpOpIn_step rfl (fun K' hK => ?_)
        simp only [Region.wanted]
        have HK := Lib.hid hK
        clear hK
        gi_wp2
        exact HK.out _ _ ⟨.agg #[.bool gn, .slice gA gl gc, .bool gm, .slice gB gl2 gc2], by simp [upd, undef, *], Below.refl _ _, rfl⟩
      · simp at ho
        subst ho
        simp [Region.binds] at hpre
        have HF := Lib.hid (mul_q (hE.below elF (bthen hbW hbw)) (hE.below elG (bthen hbW hbw)) hB0 hB0 (by omega) (by omega))
        refine wpOpIn_step rfl (fun K' hK => ?_)
        simp only [Region.wanted]
        have HK := Lib.hid hK
        clear hK
        gi_wp2_with (gi_at_call 48; (with_reducible refine CallsIn.mono (CallsIn.inRound l (callsIn_wide.2 HF.out)) ?_); rintro e w1 ⟨yn, yA, yl, yc, ym, yB, yl2, yc2, rfl, hb1, hr1⟩)
        refine HK.out _ _ ⟨.agg #[.bool yn, .slice yA yl yc, .bool ym, .slice yB yl2 yc2], by simp [upd, undef, *], hb1, ⟨yn, .slice yA yl yc, ym, .slice yB yl2 yc2⟩, rfl, hr1.mono (fun k _ hk => Nat.le_trans hbw.size hk)⟩
    case fin =>
      intro u W' hR hY
      have hbw : Below W.heap.size W W' := bthen (bdr (b0 W)) hR
      have e0 : u 0 = (.func (.func 183) #[] #[.pointer (some ⟨w.heap.size + 1, 0, none⟩)]) := hY 0 (by omega)
      obtain ⟨q, e5, h5⟩ := hY 5 (by omega)
      obtain ⟨qn, ⟨qA, ql, qc⟩, qm, ⟨qB1, ql2, qc2⟩, rfl⟩ := Qx.shape (isQc.slices h5)
      simp only [Qx.v] at e5 h5
      have hq5 := h5.q (qB_mul (hE2 elF) (hE2 elG))
      have hbys := HI.bys.below hbw
      have hbx := HI.bx.below hbw
      have hfb := HI.fb.below hbw
      have her : isQ (fun _ => True) W' z.v (dotL (fun k => qa.getD k 0 * qb.getD k 0) (pre.map fun x => x.val)) (pre.length * (2 * B + 1) + 1) := (cq_stable.below HI.ey hbw).q (by have := dotL_size (R := fun k => qa.getD k 0 * qb.getD k 0) (B := 2 * B) (fun k => (qB_mul (hE3 (hva.el k)) (hE3 (hvb.el k))).mono (by omega)) (pre.map fun x => x.val); rwa [List.length_map] at this)
      have hlm : pre.length * (2 * B + 1) + 1 ≤ 400000000 := Nat.le_trans (Nat.add_le_add_right (Nat.mul_le_mul_right _ (by omega)) 1) hS
      have HA := Lib.hid (adder1_c hq5 her hbys (by omega) (by omega) (by omega) hlm)
      have hsW := HI.size
      have hsW' := hbw.size
      have hslz := isQ.slices her
      have hsly := isQc.slices HI.ex
      have Hbys := Lib.hid hbys
      have Hbx := Lib.hid hbx
      have Hfb := Lib.hid hfb
      have Hslz := Lib.hid hslz
      have Hsly := Lib.hid hsly
      have HII := Lib.hid HI
      have Hbw := Lib.hid hbw
      have HbW := Lib.hid hbW
      clear hY hc5 hc8 her hq5 h5 hR hbys hbx hfb hslz hsly HI hbw hbW elF elG hE2 hE3 hlm hb8
      refine wpTail_step (i' := 7) (c := 1) rfl ?_
      rw [e0, e5]
      refine wpOpIn_step rfl (fun K' hK => ?_)
      simp only [Region.wanted, List.getElem_toArray, List.getElem_cons_succ, List.getElem_cons_zero]
      have HK := Lib.hid hK
      clear hK
      gi_wp2_with (gi_at_call 183; (with_reducible refine CallsIn.mono (CallsIn.inRound l (callsIn_wide.2 HA.out)) ?_); rintro e w9 ⟨p, w1, rfl, hb1, hs1, hw9, hq1, hg1⟩; have HW0 := Lib.hid hw9; clear hw9)
      obtain ⟨pn, ⟨pA, pl, pc⟩, pm, ⟨pB1, pl2, pc2⟩, rfl⟩ := Qx.shape (isQc.slices hq1)
      have hw9 := HW0.out
      have hx9 : Blk w9 w.heap.size 44 y.cs := by rw [hw9]; exact st4_blkNe (st4_blkNe (Hbx.out.below hb1) (by omega)) (by omega)
      obtain ⟨yn, yA, yl, yc, ym, yB, yl2, yc2, z0, z1, z2, z3⟩ := four0 hx9 Hsly.out
      have zf := fun j => hx9.frozen j
      have HX9 := Lib.hid hx9
      have HW9 := Lib.hid hw9
      have hl9 : w.heap.size < w9.heap.size := hx9.lt
      clear hx9 hw9 HW0
      simp only [Nat.zero_add] at z1 z2 z3
      simp only [Qx.v]
      refine HK.out _ _ ?_
      clear HK
      refine wpTail_step (i' := 8) (c := 0) rfl ?_
      refine wpOpIn_step rfl (fun K' hK => ?_)
      simp only [Region.wanted, List.getElem_toArray, List.getElem_cons_succ, List.getElem_cons_zero]
      have HK := Lib.hid hK
      clear hK
      gi_wp2
      have hw9 := HW9.out
      have hbys := Hbys.out
      have hslz := Hslz.out
      have hsly := Hsly.out
      have HI := HII.out
      have hbw := Hbw.out
      have hbW := HbW.out
      have c1 : cq w1 (Qx.v ⟨pn, .slice pA pl pc, pm, .slice pB1 pl2 pc2⟩) (dotL (fun k => qa.getD k 0 * qb.getD k 0) (pre.map fun x => x.val) + qa.getD x.val 0 * qb.getD x.val 0) := isQc.any hq1
      have c2 := st4_el0 cq_stable (z := ⟨pn, .slice pA pl pc, pm, .slice pB1 pl2 pc2⟩) (hbys.below hb1) hslz c1
      have hg2 : Blk (st4 w1 (w.heap.size + 1) 0 ⟨pn, .slice pA pl pc, pm, .slice pB1 pl2 pc2⟩) (W'.heap.size + 1) 44 Qx.zero.cs := st4_blkNe hg1 (by omega)
      have c3 := st4_el0 cq_stable (z := ⟨pn, .slice pA pl pc, pm, .slice pB1 pl2 pc2⟩) hg2 Qx.zero_sl c2
      rw [← hw9] at c3
      have c4 := st4_el0 cq_stable (z := ⟨pn, .slice pA pl pc, pm, .slice pB1 pl2 pc2⟩) HX9.out hsly c3
      have k9 : KeepsOthers W w9 := by rw [hw9]; exact keeps_st4 (keeps_st4 (keeps_below (bthen hbw hb1)))
      have s9 : w9.heap.size = w1.heap.size := by rw [hw9, st4_size, st4_size]
      have sb := hb1.size
      have b9 : Below w.heap.size W w9 := by rw [hw9]; exact st4_belowB (st4_belowB ((bthen hbw hb1).mono (by omega)) (by omega)) (by omega)
      have n9 : ∀ k, k < W.heap.size → k ≠ w.heap.size + 1 → w9.heap[k]? = W.heap[k]? := fun k hk hne => by rw [hw9, st4_heap (by omega), st4_heap hne]; exact (bthen hbw hb1).block k hk
      have y9 : Blk w9 (w.heap.size + 1) 44 (Qx.cs ⟨pn, .slice pA pl pc, pm, .slice pB1 pl2 pc2⟩) := by rw [hw9]; exact st4_blkNe (st4_blk0 (hbys.below hb1)) (by omega)
      have f9 : Blk w9 (w.heap.size + 1 + 1) 47 [(.func (.func 183) #[] #[.pointer (some ⟨w.heap.size + 1, 0, none⟩)])] := (n9 _ (by omega) (by omega)).trans HI.fb
      refine HK.out _ _ ⟨(keeps_st4 k9 (y := ⟨pn, .slice pA pl pc, pm, .slice pB1 pl2 pc2⟩) (b := w.heap.size) (o := 0)).from _, ⟨?_, ?_, ?_, ?_⟩, ⟨pn, .slice pA pl pc, pm, .slice pB1 pl2 pc2⟩, ⟨pn, .slice pA pl pc, pm, .slice pB1 pl2 pc2⟩, ⟨?_, ?_, ?_, ?_, ?_, ?_, ?_⟩⟩
      · exact Nat.le_trans (Nat.le_trans hsW' (by omega)) (Nat.le_of_eq (st4_size w9 w.heap.size 0 ⟨pn, .slice pA pl pc, pm, .slice pB1 pl2 pc2⟩).symm)
      · exact st4_belowB (y := ⟨pn, .slice pA pl pc, pm, .slice pB1 pl2 pc2⟩) (o := 0) b9 (Nat.le_refl _)
      · exact (st4_heap (y := ⟨pn, .slice pA pl pc, pm, .slice pB1 pl2 pc2⟩) (o := 0) (by omega)).trans (n9 _ (by omega) (by omega))
      · exact (st4_heap (y := ⟨pn, .slice pA pl pc, pm, .slice pB1 pl2 pc2⟩) (o := 0) (by omega)).trans (n9 _ (by omega) (by omega))
      · exact st4_blk0 (z := ⟨pn, .slice pA pl pc, pm, .slice pB1 pl2 pc2⟩) HX9.out
      · rw [List.map_append, List.map_cons, List.map_nil, dotL_snoc]; exact c4
      · exact st4_blkNe (o := 0) (y := ⟨pn, .slice pA pl pc, pm, .slice pB1 pl2 pc2⟩) y9 (by omega)
      · rw [List.map_append, List.map_cons, List.map_nil, dotL_snoc]; exact c4
      · exact st4_blkNe (o := 0) (y := ⟨pn, .slice pA pl pc, pm, .slice pB1 pl2 pc2⟩) f9 (by omega)
      · exact st4_belowB (o := 0) (y := ⟨pn, .slice pA pl pc, pm, .slice pB1 pl2 pc2⟩) (hbW.trans b9) (Nat.le_refl _)
      · exact Nat.le_trans (by omega) (Nat.le_of_eq (st4_size w9 w.heap.size 0 ⟨pn, .slice pA pl pc, pm, .slice pB1 pl2 pc2⟩).symm)
  case done =>
    rintro D xs W hD rfl ⟨y, z, HI⟩ hdef
    have hsly := isQc.slices HI.ex
    obtain ⟨yn, ⟨yA, yl, yc⟩, ym, ⟨yB1, yl2, yc2⟩, rfl⟩ := Qx.shape hsly
    obtain ⟨z0, z1, z2, z3⟩ := four1 (n3 := .bool yn) (s3 := .slice yA yl yc) (m3 := .bool ym) (t3 := .slice yB1 yl2 yc2) HI.bx
    have zf := fun j => HI.bx.frozen j
    have hsW := HI.size
    gi_wp2
    have hdef' := (keeps_st4 (KeepsOthers.refl W) (b := w.heap.size) (o := 0) (y := ⟨yn, .slice yA yl yc, ym, .slice yB1 yl2 yc2⟩)).same D _ hdef rfl
    refine ⟨by simp, .inl ⟨_, _, rfl, run_takeDeferred hdef', ?_⟩⟩
    have H1 := st4_blk0 (z := ⟨yn, .slice yA yl yc, ym, .slice yB1 yl2 yc2⟩) HI.bx
    have H2 := blk_grown H1 (grownBy_putObj' _ D (.deferred none)) (fun r e => by
      injection e with e; subst e
      exact ⟨_, hdef', rfl⟩)
    have c1 := isQc.grown (st4_el0 cq_stable (z := ⟨yn, .slice yA yl yc, ym, .slice yB1 yl2 yc2⟩) HI.bx hsly HI.ex) (grownBy_putObj' _ D (.deferred none)) (fun r e => by
      injection e with e; subst e
      exact ⟨_, hdef', rfl⟩)
    obtain ⟨t0, t1, t2, t3⟩ := four1 (n3 := .bool yn) (s3 := .slice yA yl yc) (m3 := .bool ym) (t3 := .slice yB1 yl2 yc2) H2
    simp only [st4, Nat.zero_add] at t0 t1 t2 t3
    refine ⟨.agg #[.bool yn, .slice yA yl yc, .bool ym, .slice yB1 yl2 yc2], ?_, ?_⟩
    · simp [results, Tryz.results47, go_sem, t0, t1, t2, t3]
    · refine ⟨yn, yA, yl, yc, ym, yB1, yl2, yc2, rfl, ?_, ?_⟩
      · have hD' : w.heap.size + 5 ≤ D := by simpa using hD
        exact below_putObj (st4_belowB (o := 0) (y := ⟨yn, .slice yA yl yc, ym, .slice yB1 yl2 yc2⟩) HI.below (Nat.le_refl _)) (Nat.le_trans (by omega) (Nat.le_of_eq (st4_size W w.heap.size 0 ⟨yn, .slice yA yl yc, ym, .slice yB1 yl2 yc2⟩).symm)) (by omega)
      · rw [show (plc (max qa.length qb.length)).map (fun x => x.val) = List.range (max qa.length qb.length) by have := map_finRange (max qa.length qb.length) (fun k => k); unfold plc; simpa using this] at c1
        exact c1
end Go.Proofs.YtdkfdamihnieiaaGreat
end
