/- Contracts of package whole, part 5: add, sub, cmp of magnitudes. -/
import Derived.Test.YtdkfdamihnieiaaGreatG02
set_option linter.unusedSimpArgs false
set_option linter.unusedVariables false
section
open Go Go.RowKit Go.Shelf
namespace Go.Proofs.YtdkfdamihnieiaaGreat
open Go.Proofs
attribute [local go_sem] Oper.semAt_some wide_fn wide_depth

/-- Words and a carry that come to the digits ds (digits that may be too great). -/
structure CarI (ds : List Nat) (ws : List Nat) (cy : Nat) : Prop where
  len : ws.length = ds.length
  val : wv ws + pw ds.length * cy = wv ds
theorem CarI.start : CarI [] [] 0 := ⟨rfl, rfl⟩
theorem CarI.step {ds ws cy} (h : CarI ds ws cy) (v : Nat) : CarI (ds ++ [v]) (ws ++ [(v + cy) % 4294967296]) ((v + cy) / 4294967296) := by
  refine ⟨by simp [h.len], ?_⟩
  have hv := h.val
  have hl := h.len
  rw [wv_snoc, wv_snoc, List.length_append, List.length_singleton, pw_succ, hl, ← hv]
  have e : pw ds.length * (v + cy) = 4294967296 * pw ds.length * ((v + cy) / 4294967296) + pw ds.length * ((v + cy) % 4294967296) := by
    conv => lhs; rw [← Nat.div_add_mod (v + cy) 4294967296]
    rw [Nat.mul_add]; simp only [Nat.mul_assoc, Nat.mul_left_comm]
  rw [Nat.mul_add] at e
  omega
theorem CarS.from {n0 : Nat} {w W' : World} {bo bc : Nat} {ws : List Nat} {cy : Nat} {row : Option Nat} (h : CarS n0 w bo bc ws cy) (hg : w.grownBy W' row) (hr : ∀ r, row = some r → ∃ o : Obj, w.heap[r]? = some o ∧ o.isCells = false) : CarS n0 W' bo bc ws cy := by
  have key : ∀ (k : Nat) (cs : Array Value) (T : TypeId) (fr : Nat × Nat), w.heap[k]? = some (Obj.cells cs T fr) → W'.heap[k]? = some (Obj.cells cs T fr) := by
    intro k cs T fr hk
    refine (hg.block k (Array.getElem?_eq_some_iff.1 hk).1 (fun e => ?_)).trans hk
    obtain ⟨o, ho, hc⟩ := hr k e.symm
    rw [hk] at ho; cases ho; cases hc
  obtain ⟨⟨sv, hso, hown⟩, hsc, hok⟩ := h
  refine ⟨⟨sv, key _ _ _ _ hso, ⟨hown.1, ?_⟩⟩, key _ _ _ _ hsc, hok⟩
  rcases hown.2 with hn | ⟨g, cap, cur, rfl, hb, hgg, rest⟩
  · exact .inl hn
  · exact .inr ⟨g, cap, cur, rfl, hb, key _ _ _ _ hgg, rest⟩
theorem box_from {w W' : World} {k : Nat} {v : Value} {T : TypeId} {row : Option Nat} (h : w.heap[k]? = some (.cells #[v] T (0, 0))) (hg : w.grownBy W' row) (hr : ∀ r, row = some r → ∃ o : Obj, w.heap[r]? = some o ∧ o.isCells = false) : W'.heap[k]? = some (.cells #[v] T (0, 0)) := by
  refine (hg.block k (Array.getElem?_eq_some_iff.1 h).1 (fun e => ?_)).trans h
  obtain ⟨o, ho, hc⟩ := hr k e.symm
  rw [h] at ho; cases ho; cases hc
theorem below_from {n B : Nat} {w0 w W' : World} {row : Option Nat} (h : Below n w0 w) (hn : n ≤ B) (hB : n ≤ w.heap.size) (hg : w.grownBy W' row) (hr : ∀ r, row = some r → B ≤ r) : Below n w0 W' :=
  h.grown hg hB (fun k hk => Nat.le_trans hn (hr k hk))
theorem cell_putObj {W : World} {D : Nat} {o o' : Obj} (h : W.heap[D]? = some o) (hc : o.isCells = false) {a : Addr} {v : Value} (hv : W.cell? a = some v) : (W.putObj D o').cell? a = some v := by
  refine (World.cell?_of_block (w := W) (World.putObj_heap_other (fun e => ?_))).trans hv
  subst e
  unfold World.cell? at hv
  rw [h] at hv
  cases o <;> simp [Obj.isCells] at hc hv
theorem Rd.putObj {ok : Nat → Prop} {W : World} {D : Nat} {o o' : Obj} {A c ws} (h : Rd ok W A c ws) (hD : W.heap[D]? = some o) (hc : o.isCells = false) : Rd ok (W.putObj D o') A c ws := by
  refine ⟨h.cap, h.lim, h.okw, fun h0 => ?_⟩
  obtain ⟨b, of, hA, hok, hcs⟩ := h.cells h0
  exact ⟨b, of, hA, hok, fun j hj => cell_putObj hD hc (hcs j hj)⟩
theorem Wd.putObj {ok : Nat → Prop} {W : World} {D : Nat} {o o' : Obj} {v ws} (h : Wd ok W v ws) (hD : W.heap[D]? = some o) (hc : o.isCells = false) : Wd ok (W.putObj D o') v ws := by
  obtain ⟨A, c, e, h⟩ := h; exact ⟨A, c, e, h.putObj hD hc⟩
theorem below_putObj {n : Nat} {w W : World} {D : Nat} {o' : Obj} (h : Below n w W) (hn : n ≤ W.heap.size) (hD : n ≤ D) : Below n w (W.putObj D o') :=
  h.grown (grownBy_putObj' W D o') hn (fun k hk => by cases hk; exact hD)
theorem old_rd {ok ok' : Nat → Prop} {w A c ws} (h : Rd ok w A c ws) (hk : ∀ k, k < w.heap.size → ok' k) : Rd ok' w A c ws := h.mono fun b hb _ => hk b hb
theorem old_wd {ok : Nat → Prop} {P : Nat → Prop} {w v ws} (h : Wd ok w v ws) : Wd (fun k => k < w.heap.size ∨ P k) w v ws := h.mono fun _ hb _ => .inl hb
set_option maxRecDepth 100000 in
set_option maxHeartbeats 2000000 in
theorem add_mag {ok1 ok2 w va vb a b} (h1 : Wd ok1 w va a) (h2 : Wd ok2 w vb b) (ha : a.length ≤ 1000000000) (hb : b.length ≤ 1000000000) :
    Calls Tryz.prog 227 #[va, vb] w (RetW w fun w' v => ∃ r, Wd (fresh w) w' v r ∧ wv r = wv a + wv b ∧ r.length = max a.length b.length + 1) := by
  obtain ⟨A1, l1, c1, rfl⟩ := h1.shape
  obtain ⟨A2, l2, c2, rfl⟩ := h2.shape
  refine (callsIn_wide (n := 10)).1 ?_
  refine callsIn_of_wp_marks Tryz.func227 rfl trivial ?_ rfl
  simp only [Tryz.ntmps227, List.size_toArray, List.length_cons, List.length_nil, Nat.reduceAdd, Nat.reduceSub, Array.replicate_succ, Array.replicate_zero, List.push_toArray, List.append_toArray, List.nil_append, List.cons_append]
  gi_wp2_with (first
    | (gi_at_call 248; refine CallsIn.mono (callsIn_wide.2 carrier_c) ?_; rintro e w' ⟨rfl, rfl⟩)
    | (gi_at_call 249; refine CallsIn.mono (callsIn_wide.2 pairs_c) ?_; rintro e w' ⟨rfl, rfl⟩))
  have g1 := ((((h1.below (bal (b0 w) (o := .cells #[.slice none 0 0] 40))).below (bal (b0 _) (o := .cells #[.int .u64 0] 199))).below (bal (b0 _) (o := .cells #[.func (.func 254) #[] #[.pointer (some ⟨w.heap.size + 1, 0, none⟩), .pointer (some ⟨w.heap.size, 0, none⟩)]] 231))).below (bal (b0 _) (o := .cells #[.slice A1 l1 c1] 40))).below (bal (b0 _) (o := .cells #[.slice A2 l2 c2] 40))
  refine' wpIn_rangeFunc_ownF rfl (by omega) (gf := 256) (lb := #[.pointer (some ⟨w.heap.size + 1 + 1 + 1, 0, none⟩), .pointer (some ⟨w.heap.size + 1 + 1 + 1 + 1, 0, none⟩)]) rfl trivial (enters_of Tryz.func256 (by kernel_rfl) rfl)
    (pairs_stops (n := 9) (by omega) (ok := fun k => k < w.heap.size ∨ k = w.heap.size + 1 + 1 + 1 ∨ k = w.heap.size + 1 + 1 + 1 + 1) (va := .slice A1 l1 c1) (vb := .slice A2 l2 c2) (a := a) (b := b) ?p1 ?p2 (by simp) (by simp) ?p3 ?p4)
    KeepOk.trans ?p5 (Below.refl _ _) (fun _ => rfl)
    (fun pre W => ∃ ws cy, CarS (w.heap.size + 5) W w.heap.size (w.heap.size + 1) ws cy ∧ CarI (pre.map fun x => a.getD x.val 0 + b.getD x.val 0) ws cy ∧ cy ≤ 1 ∧ W.heap[w.heap.size + 1 + 1]? = some (.cells #[.func (.func 254) #[] #[.pointer (some ⟨w.heap.size + 1, 0, none⟩), .pointer (some ⟨w.heap.size, 0, none⟩)]] 231 (0, 0)) ∧ Below w.heap.size w W ∧ w.heap.size + 5 ≤ W.heap.size)
    (fun _ _ _ => False) ?p6 (fun _ _ _ _ _ hs _ _ => hs) ?p7 _ ?assign ?body ?done (fun _ _ _ _ _ _ h _ => h.elim)
  case assign =>
    intro l x W K hK
    simp only [pr64]
    gi_wp2
    exact hK
  case body =>
    rintro l pre x W ⟨ws, cy, hcs, hci, hcy, hbx, hbl, hsz⟩ hlen
    have cP := cell_of_row W _ 0 _ 231 (0, 0) hbx
    simp only [List.getElem?_toArray, List.getElem?_cons_zero] at cP
    have q1 := h1.okw.getD x.val
    have q2 := h2.okw.getD x.val
    obtain ⟨y, hy⟩ : ∃ y : Nat, y = a.getD x.val 0 + b.getD x.val 0 := ⟨_, rfl⟩
    have hv0 : wd a x.val + wd b x.val = (y : Int) := by rw [hy]; unfold wd; omega
    have hy2 : y ≤ 8589934590 := by omega
    have Hy := Lib.hid hy
    clear hy
    have hwl : ws.length = pre.length := by rw [hci.len]; simp
    have hwl2 : ws.length ≤ 10000000000 := by have := prs_length a b; omega
    clear hwl
    have hst := hci.step y
    have hve : y + cy < 18446744073709551616 := by omega
    have hve2 : (y + cy) / 4294967296 ≤ 1 := by omega
    have hput := put_c (n0 := w.heap.size + 5) (nb := w.heap.size) (v := y) hcs (by omega) hve (by omega) (by omega) (by omega) (Nat.le_refl _) (by omega) (by omega) hwl2
    have Hput := Lib.hid hput
    clear hput
    gi_wp2_with (gi_at_call 254; refine CallsIn.mono (CallsIn.inRound l (callsIn_wide.2 Hput.out)) ?_; rintro e W2 ⟨rfl, hc2, hs2, hk2, hb2, ho2, _⟩)
    refine ⟨ho2, ?_, _, _, hc2, ?_, hve2, ?_, hbl.trans hb2, by omega⟩
    · refine ⟨hs2, fun k hk => hk2 k ?_ ?_ ?_ ?_⟩ <;> omega
    · rw [List.map_append, List.map_singleton, ← Hy.out]; exact hst
    · exact (hk2 _ (by omega) (by omega) (by omega) (by omega)).trans hbx
  case p1 =>
    have := heap_alloc_new (((w.alloc (.cells #[.slice none 0 0] 40)).alloc (.cells #[.int .u64 0] 199)).alloc (.cells #[.func (.func 254) #[] #[.pointer (some ⟨w.heap.size + 1, 0, none⟩), .pointer (some ⟨w.heap.size, 0, none⟩)]] 231)) (.cells #[.slice A1 l1 c1] 40)
    simp only [World.size_alloc] at this
    exact (Below.heap_alloc _ _ _ (by simp)).trans this
  case p2 =>
    have := heap_alloc_new ((((w.alloc (.cells #[.slice none 0 0] 40)).alloc (.cells #[.int .u64 0] 199)).alloc (.cells #[.func (.func 254) #[] #[.pointer (some ⟨w.heap.size + 1, 0, none⟩), .pointer (some ⟨w.heap.size, 0, none⟩)]] 231)).alloc (.cells #[.slice A1 l1 c1] 40)) (.cells #[.slice A2 l2 c2] 40)
    simp only [World.size_alloc] at this
    exact this
  case p3 => exact (old_wd h1).below (bal (bal (bal (bal (bal (b0 w))))))
  case p4 => exact (old_wd h2).below (bal (bal (bal (bal (bal (b0 w))))))
  case p5 =>
    intro W l o o' hl _ _ _
    refine ⟨by simp, fun k hk => World.putObj_heap_other ?_⟩
    simp at hl
    omega
  case p6 =>
    rintro pre X Y row ⟨ws, cy, hcs, hci, hcy, hbx, hbl, hsz⟩ hg hr
    have hr2 : ∀ r, row = some r → ∃ o : Obj, X.heap[r]? = some o ∧ o.isCells = false := fun r e => (hr r e).2
    exact ⟨ws, cy, hcs.from hg hr2, hci, hcy, box_from hbx hg hr2, below_from hbl (B := w.heap.size) (Nat.le_refl _) hbl.size hg (fun r e => by have := (hr r e).1; simp at this; omega), Nat.le_trans hsz hg.size⟩
  case p7 =>
    refine ⟨[], 0, ?_, CarI.start, by omega, ?_, bal (bal (bal (bal (bal (b0 w))))), by simp⟩
    · have q : ∀ {X : World} {o : Obj}, CarS (w.heap.size + 5) X w.heap.size (w.heap.size + 1) [] 0 → CarS (w.heap.size + 5) (X.alloc o) w.heap.size (w.heap.size + 1) [] 0 := fun h => h.from (World.grownBy_alloc _ _ none) (fun r e => by cases e)
      exact q (q (q (CarS.start w)))
    · have := heap_alloc_new ((w.alloc (.cells #[.slice none 0 0] 40)).alloc (.cells #[.int .u64 0] 199)) (.cells #[.func (.func 254) #[] #[.pointer (some ⟨w.heap.size + 1, 0, none⟩), .pointer (some ⟨w.heap.size, 0, none⟩)]] 231)
      simp only [World.size_alloc] at this
      exact (Below.heap_alloc _ _ _ (by simp)).trans ((Below.heap_alloc _ _ _ (by simp)).trans this)
  case done =>
    rintro D xs W hD rfl ⟨ws, cy, hcs, hci, hcy, hbx, hbl, hsz⟩ hdef
    have hwl : ws.length = max a.length b.length := by rw [hci.len]; simp [prs]
    have hall := all_c (nb := w.heap.size) hcs (by omega) hsz (by omega) (by omega)
    have Hall := Lib.hid hall
    have Hwl := Lib.hid hwl
    clear hall hwl
    gi_wp2_with (gi_at_call 255; refine CallsIn.mono (callsIn_wide.2 Hall.out) ?_; rintro e W2 ⟨A3, l3, c3, rfl, hw3, hb3, ho3⟩)
    refine ⟨by simp, .inl ⟨_, _, rfl, run_takeDeferred (ho3.same D _ hdef rfl), ?_⟩⟩
    refine ⟨_, results_tmp rfl _ _ _, ?_⟩
    have hd2 := ho3.same D _ hdef rfl
    refine ⟨A3, l3, c3, rfl, below_putObj (hbl.trans hb3) (Nat.le_trans hbl.size hb3.size) (by simp at hD; omega), ws ++ [cy], (hw3.putObj hd2 rfl).mono (fun k _ hk => by unfold fresh; omega), ?_, by simp [Hwl.out]⟩
    have hv := hci.val
    rw [List.length_map, prs_length, wv_map_add] at hv
    unfold prs at hv
    rw [wv_map_fin a _ (by omega), wv_map_fin b _ (by omega)] at hv
    rw [wv_snoc, Hwl.out]; exact hv
end Go.Proofs.YtdkfdamihnieiaaGreat
end
section
/- Contracts of package whole, part 6: sub of magnitudes. -/
open Go Go.RowKit Go.Shelf
namespace Go.Proofs.YtdkfdamihnieiaaGreat
open Go.Proofs
attribute [local go_sem] Oper.semAt_some wide_fn wide_depth
/-- A digit of the difference, with the complement. -/
def sd (x y : Nat) : Nat := x + 4294967296 - 1 - y
theorem sd_eq (x y : Nat) : sd x y = x + 4294967296 - 1 - y := rfl
theorem sub_digits {α : Type} (l : List α) (f g : α → Nat) (hg : ∀ x, g x < 4294967296) : wv (l.map fun x => sd (f x) (g x)) + wv (l.map g) + 1 = wv (l.map f) + pw l.length := by
  induction l with
  | nil => rfl
  | cons x r ih =>
    have := hg x
    simp only [List.map_cons, wv, List.length_cons, pw_succ, sd_eq]
    simp only [sd_eq] at ih
    omega
theorem sub_val {D A B P c N : Nat} {ws ds : List Nat} (hw : okw ws) (hl : ws.length = N + 1) (hD : D + B + 1 = A + P) (hv : wv ws + pw (N + 1) * c = wv (4294967296 :: ds)) (hd : wv ds = D) (hP : P = pw N) (hle : B ≤ A) (hA : A < P) :
    ∃ r, ws = 0 :: r ∧ r.length = N ∧ wv r = A - B := by
  cases ws with
  | nil => simp at hl
  | cons x r =>
    have hr : r.length = N := by simpa using hl
    rw [okw_cons] at hw
    have hlt := wv_lt hw.2
    simp only [wv] at hv
    rw [hr, ← hP] at hlt
    rw [hd, pw_succ, ← hP, Nat.mul_assoc] at hv
    have hx : x = 0 := by omega
    subst hx
    refine ⟨r, rfl, hr, ?_⟩
    have h2 : wv r + P * c = A - B + P := by omega
    have hc : c = 1 := by
      rcases Nat.lt_trichotomy c 1 with h | h | h
      · have : c = 0 := by omega
        subst this; omega
      · exact h
      · have := Nat.mul_le_mul_left P (show 2 ≤ c from h)
        omega
    subst hc; omega
theorem Rd.tail {ok w b o c x r} (h : Rd ok w (some ⟨b, o, none⟩) c (x :: r)) : Rd ok w (some ⟨b, o + 1, none⟩) (c - 1) r := by
  have h1 := h.cap
  have h2 := h.lim
  simp only [List.length_cons] at h1
  refine ⟨by omega, by omega, fun y hy => h.okw y (List.mem_cons_of_mem _ hy), fun h0 => ?_⟩
  obtain ⟨b', o', e, hok, hc⟩ := h.cells (by simp)
  cases e
  refine ⟨b, o + 1, rfl, hok, fun j hj => ?_⟩
  have := hc (j + 1) (by simp; omega)
  rw [show o + 1 + j = o + (j + 1) by omega, this]
  simp [wd]
set_option maxRecDepth 100000 in
set_option maxHeartbeats 2000000 in
theorem sub_mag {ok1 ok2 w va vb a b} (h1 : Wd ok1 w va a) (h2 : Wd ok2 w vb b) (ha : a.length ≤ 1000000000) (hb : b.length ≤ 1000000000) (hle : wv b ≤ wv a) :
    Calls Tryz.prog 229 #[va, vb] w (RetW w fun w' v => ∃ r, Wd (fresh w) w' v r ∧ wv r = wv a - wv b ∧ r.length = max a.length b.length) := by
  obtain ⟨A1, l1, c1, rfl⟩ := h1.shape
  obtain ⟨A2, l2, c2, rfl⟩ := h2.shape
  refine (callsIn_wide (n := 10)).1 ?_
  refine callsIn_of_wp_marks Tryz.func229 rfl trivial ?_ rfl
  simp only [Tryz.ntmps229, List.size_toArray, List.length_cons, List.length_nil, Nat.reduceAdd, Nat.reduceSub, Array.replicate_succ, Array.replicate_zero, List.push_toArray, List.append_toArray, List.nil_append, List.cons_append]
  have hcs0 : CarS (w.heap.size + 3) (((w.alloc (.cells #[.slice none 0 0] 40)).alloc (.cells #[.int .u64 0] 199)).alloc (.cells #[.func (.func 254) #[] #[.pointer (some ⟨w.heap.size + 1, 0, none⟩), .pointer (some ⟨w.heap.size, 0, none⟩)]] 231)) w.heap.size (w.heap.size + 1) [] 0 := (CarS.start w).from (World.grownBy_alloc _ _ none) (fun r e => by cases e)
  have hput0 := put_c (nb := w.heap.size) (v := 4294967296) hcs0 (by omega) (by omega) (by simp) (by omega) (by omega) (Nat.le_refl _) (by omega) (by omega) (by simp)
  have hbx0 := heap_alloc_new ((w.alloc (.cells #[.slice none 0 0] 40)).alloc (.cells #[.int .u64 0] 199)) (.cells #[.func (.func 254) #[] #[.pointer (some ⟨w.heap.size + 1, 0, none⟩), .pointer (some ⟨w.heap.size, 0, none⟩)]] 231)
  simp only [World.size_alloc] at hbx0
  have Hbx0 := Lib.hid hbx0
  have Hput0 := Lib.hid hput0
  clear hput0 hcs0 hbx0
  gi_wp2_with (first
    | (gi_at_call 248; refine CallsIn.mono (callsIn_wide.2 carrier_c) ?_; rintro e w' ⟨rfl, rfl⟩)
    | (gi_at_call 254; refine CallsIn.mono (callsIn_wide.2 Hput0.out) ?_; rintro e W1 ⟨rfl, hc1, hs1, hk1, hb1, ho1, _⟩)
    | (gi_at_call 249; refine CallsIn.mono (callsIn_wide.2 pairs_c) ?_; rintro e w' ⟨rfl, rfl⟩))
  have hbl1 : Below w.heap.size w W1 := (bal (bal (bal (b0 w)))).trans hb1
  have hbx1 := (hk1 (w.heap.size + 1 + 1) (by simp) (by omega) (by omega) (by omega)).trans Hbx0.out
  have hsz1 : w.heap.size + 3 ≤ W1.heap.size := by simp at hs1; omega
  have hcs1 : CarS (w.heap.size + 3) W1 w.heap.size (w.heap.size + 1) [0] 1 := hc1
  clear hc1 hs1 hk1 hb1 ho1 Hput0 Hbx0
  refine' wpIn_rangeFunc_ownF rfl (by omega) (gf := 256) (lb := #[.pointer (some ⟨W1.heap.size, 0, none⟩), .pointer (some ⟨W1.heap.size + 1, 0, none⟩)]) rfl trivial (enters_of Tryz.func256 (by kernel_rfl) rfl)
    (pairs_stops (n := 9) (by omega) (ok := fun k => k < w.heap.size ∨ k = W1.heap.size ∨ k = W1.heap.size + 1) (va := .slice A1 l1 c1) (vb := .slice A2 l2 c2) (a := a) (b := b) ?p1 ?p2 (by simp) (by simp) ?p3 ?p4)
    KeepOk.trans ?p5 (Below.refl _ _) (fun _ => rfl)
    (fun pre W => ∃ ws cy, CarS (w.heap.size + 3) W w.heap.size (w.heap.size + 1) ws cy ∧ CarI (4294967296 :: pre.map fun x => sd (a.getD x.val 0) (b.getD x.val 0)) ws cy ∧ cy ≤ 1 ∧ W.heap[w.heap.size + 1 + 1]? = some (.cells #[.func (.func 254) #[] #[.pointer (some ⟨w.heap.size + 1, 0, none⟩), .pointer (some ⟨w.heap.size, 0, none⟩)]] 231 (0, 0)) ∧ Below w.heap.size w W ∧ W1.heap.size + 2 ≤ W.heap.size ∧ W.heap[W1.heap.size]? = some (.cells #[.slice A1 l1 c1] 40 (0, 0)) ∧ W.heap[W1.heap.size + 1]? = some (.cells #[.slice A2 l2 c2] 40 (0, 0)))
    (fun _ _ _ => False) ?p6 (fun _ _ _ _ _ hs _ _ => hs) ?p7 _ ?assign ?body ?done (fun _ _ _ _ _ _ h _ => h.elim)
  case assign =>
    intro l x W K hK
    simp only [pr64]
    gi_wp2
    exact hK
  case body =>
    rintro l pre x W ⟨ws, cy, hcs, hci, hcy, hbx, hbl, hsz, hpa, hpb⟩ hlen
    have cP := cell_of_row W _ 0 _ 231 (0, 0) hbx
    simp only [List.getElem?_toArray, List.getElem?_cons_zero] at cP
    have q1 := h1.okw.getD x.val
    have q2 := h2.okw.getD x.val
    have q3 : 0 ≤ wd a x.val ∧ wd a x.val < 4294967296 := by unfold wd; omega
    have q4 : 0 ≤ wd b x.val ∧ wd b x.val < 4294967296 := by unfold wd; omega
    obtain ⟨q31, q32⟩ := q3
    obtain ⟨q41, q42⟩ := q4
    obtain ⟨y, hy⟩ : ∃ y : Nat, y = sd (a.getD x.val 0) (b.getD x.val 0) := ⟨_, rfl⟩
    have hv0 : wd a x.val + 4294967296 - 1 - wd b x.val = (y : Int) := by rw [hy, sd_eq]; unfold wd; omega
    have hy2 : y ≤ 8589934590 := by rw [sd_eq] at hy; omega
    have Hy := Lib.hid hy
    clear hy
    have hwl : ws.length = pre.length + 1 := by rw [hci.len]; simp
    have hwl2 : ws.length ≤ 10000000000 := by have := prs_length a b; omega
    clear hwl
    have hst := hci.step y
    have hve : y + cy < 18446744073709551616 := by omega
    have hve2 : (y + cy) / 4294967296 ≤ 1 := by omega
    have hput := put_c (nb := w.heap.size) (v := y) hcs (by omega) hve (by omega) (by omega) (by omega) (Nat.le_refl _) (by omega) (by omega) hwl2
    have Hput := Lib.hid hput
    clear hput
    gi_wp2_with (gi_at_call 254; refine CallsIn.mono (CallsIn.inRound l (callsIn_wide.2 Hput.out)) ?_; rintro e W2 ⟨rfl, hc2, hs2, hk2, hb2, ho2, ht2⟩)
    have hpa2 := ht2 _ _ _ _ hpa (by decide) (by omega) (by omega)
    have hpb2 := ht2 _ _ _ _ hpb (by decide) (by omega) (by omega)
    refine ⟨ho2, ?_, _, _, hc2, ?_, hve2, ?_, hbl.trans hb2, by omega, hpa2, hpb2⟩
    · refine ⟨hs2, fun k hk => ?_⟩
      rcases hk with hk | rfl | rfl
      · exact hk2 k (by omega) (by omega) (by omega) (by omega)
      · rw [hpa2, hpa]
      · rw [hpb2, hpb]
    · rw [List.map_append, List.map_singleton, ← Hy.out]; exact hst
    · exact ht2 _ _ _ _ hbx (by decide) (by omega) (by omega)
  case p1 => exact (Below.heap_alloc _ _ _ (by simp)).trans (heap_alloc_new W1 _)
  case p2 =>
    have := heap_alloc_new (W1.alloc (.cells #[.slice A1 l1 c1] 40)) (.cells #[.slice A2 l2 c2] 40)
    simp only [World.size_alloc] at this
    exact this
  case p3 => exact (old_wd h1).below (bal (bal hbl1))
  case p4 => exact (old_wd h2).below (bal (bal hbl1))
  case p5 =>
    intro W l o o' hl _ _ _
    refine ⟨by simp, fun k hk => World.putObj_heap_other ?_⟩
    simp at hl
    omega
  case p6 =>
    rintro pre X Y row ⟨ws, cy, hcs, hci, hcy, hbx, hbl, hsz, hpa, hpb⟩ hg hr
    have hr2 : ∀ r, row = some r → ∃ o : Obj, X.heap[r]? = some o ∧ o.isCells = false := fun r e => (hr r e).2
    exact ⟨ws, cy, hcs.from hg hr2, hci, hcy, box_from hbx hg hr2, below_from hbl (B := w.heap.size) (Nat.le_refl _) hbl.size hg (fun r e => by have := (hr r e).1; simp at this; omega), Nat.le_trans hsz hg.size, box_from hpa hg hr2, box_from hpb hg hr2⟩
  case p7 =>
    refine ⟨[0], 1, ?_, CarI.start.step 4294967296, by omega, ?_, bal (bal hbl1), by simp, (Below.heap_alloc _ _ _ (by simp)).trans (heap_alloc_new W1 _), ?_⟩
    · exact (hcs1.from (World.grownBy_alloc _ _ none) (fun r e => by cases e)).from (World.grownBy_alloc _ _ none) (fun r e => by cases e)
    · exact (Below.heap_alloc _ _ _ (by simp; omega)).trans ((Below.heap_alloc _ _ _ (by omega)).trans hbx1)
    · have := heap_alloc_new (W1.alloc (.cells #[.slice A1 l1 c1] 40)) (.cells #[.slice A2 l2 c2] 40)
      simp only [World.size_alloc] at this
      exact this
  case done =>
    rintro D xs W hD rfl ⟨ws, cy, hcs, hci, hcy, hbx, hbl, hsz, hpa, hpb⟩ hdef
    have hwl : ws.length = max a.length b.length + 1 := by rw [hci.len]; simp [prs]
    have hall := all_c (nb := w.heap.size) hcs (by omega) (by omega) (by omega) (by omega)
    have Hall := Lib.hid hall
    have hsv : ∃ r, ws = 0 :: r ∧ r.length = max a.length b.length ∧ wv r = wv a - wv b := by
      have hv := hci.val
      have hd := sub_digits (prs a b) (fun x => a.getD x.val 0) (fun x => b.getD x.val 0) (fun x => h2.okw.getD x.val)
      rw [List.length_cons, List.length_map, prs_length] at hv
      rw [prs_length] at hd
      unfold prs at hd hv
      rw [wv_map_fin a _ (by omega), wv_map_fin b _ (by omega)] at hd
      exact sub_val hcs.okw hwl hd hv rfl rfl hle (Nat.lt_of_lt_of_le (wv_lt h1.okw) (pw_mono (by omega)))
    obtain ⟨r, rfl, hrl, hrv⟩ := hsv
    have Hrl := Lib.hid hrl
    have Hrv := Lib.hid hrv
    clear hall hwl hrl hrv
    gi_wp2_with (gi_at_call 255; refine CallsIn.mono (callsIn_wide.2 Hall.out) ?_; rintro e W2 ⟨A3, l3, c3, rfl, hw3, hb3, ho3⟩; have hr3 := hw3.rd; obtain rfl : l3 = r.length + 1 + 1 := (by have := hw3.len_eq; simpa using this); obtain ⟨bA, oA, rfl, okA, cA⟩ := hr3.cells (by simp); clear cA; have hcap := hr3.cap; have hlim := hr3.lim; unfold maxLen at hlim; simp only [List.cons_append, List.length_cons, List.length_append, List.length_nil, Nat.zero_add] at hcap)
    have hd2 := ho3.same D _ hdef rfl
    refine ⟨by simp, .inl ⟨_, _, rfl, run_takeDeferred hd2, ?_⟩⟩
    refine ⟨_, results_tmp rfl _ _ _, ?_⟩
    have rt := (Rd.tail (x := 0) (r := r ++ [cy]) hr3).take r.length
    rw [List.take_left] at rt
    exact ⟨_, _, _, rfl, below_putObj (hbl.trans hb3) (Nat.le_trans hbl.size hb3.size) (by simp at hD; omega), r, Wd.mk ((rt.putObj hd2 rfl).mono (fun k _ hk => by unfold fresh; omega)) rfl, Hrv.out, Hrl.out⟩
end Go.Proofs.YtdkfdamihnieiaaGreat
end
section
/- Contracts of package whole, part 7: cmp of magnitudes. -/
open Go Go.RowKit Go.Shelf
namespace Go.Proofs.YtdkfdamihnieiaaGreat
open Go.Proofs
attribute [local go_sem] Oper.semAt_some wide_fn wide_depth

/-- -1, 0 or 1. -/
def cm (p q : Nat) : Int := if p < q then -1 else if q < p then 1 else 0
theorem cm_step {p q P x y : Nat} (hp : p < P) (hq : q < P) : cm (p + P * x) (q + P * y) = if x < y then -1 else if y < x then 1 else cm p q := by
  unfold cm
  rcases Nat.lt_trichotomy x y with h | h | h
  · have := Nat.mul_le_mul_left P (show x + 1 ≤ y from h)
    rw [Nat.mul_add] at this
    (repeat' split) <;> omega
  · subst h
    (repeat' split) <;> omega
  · have := Nat.mul_le_mul_left P (show y + 1 ≤ x from h)
    rw [Nat.mul_add] at this
    (repeat' split) <;> omega
theorem okw_map {α : Type} (l : List α) (f : α → Nat) (h : ∀ x, f x < 4294967296) : okw (l.map f) := by
  intro y hy
  obtain ⟨x, _, rfl⟩ := List.mem_map.1 hy
  exact h x
theorem cm_snoc {α : Type} (l : List α) (x : α) (f g : α → Nat) (hf : ∀ x, f x < 4294967296) (hg : ∀ x, g x < 4294967296) :
    cm (wv ((l ++ [x]).map f)) (wv ((l ++ [x]).map g)) = if f x < g x then -1 else if g x < f x then 1 else cm (wv (l.map f)) (wv (l.map g)) := by
  rw [List.map_append, List.map_append, List.map_singleton, List.map_singleton, wv_snoc, wv_snoc, List.length_map, List.length_map]
  have h1 := wv_lt (okw_map l f hf)
  have h2 := wv_lt (okw_map l g hg)
  rw [List.length_map] at h1 h2
  exact cm_step h1 h2
/-- What cmp of canonical magnitudes says. -/
structure CmpS (x y : Nat) (c : Int) : Prop where
  lo : -9223372036854775808 ≤ c
  hi : c ≤ 9223372036854775807
  ge : 0 ≤ c ↔ y ≤ x
  le : c ≤ 0 ↔ x ≤ y
theorem CmpS.of_len {x y : Nat} (h : (dg x).length ≠ (dg y).length) (h1 : (dg x).length ≤ 1000000000) (h2 : (dg y).length ≤ 1000000000) : CmpS x y (((dg x).length : Int) - ((dg y).length : Int)) := by
  have key : ∀ u v, (dg u).length < (dg v).length → u < v := by
    intro u v huv
    have := dg_length_lt u
    rcases Nat.lt_or_ge v (pw (dg u).length) with h3 | h3
    · exact absurd (dg_length h3) (by omega)
    · omega
  rcases Nat.lt_or_ge (dg x).length (dg y).length with h3 | h3
  · have := key _ _ h3; exact ⟨by omega, by omega, by omega, by omega⟩
  · have := key _ _ (show (dg y).length < (dg x).length by omega); exact ⟨by omega, by omega, by omega, by omega⟩
theorem CmpS.of_cm {x y : Nat} : CmpS x y (cm x y) := by
  unfold cm
  by_cases h : x < y
  · rw [if_pos h]; exact ⟨by omega, by omega, by omega, by omega⟩
  · rw [if_neg h]
    by_cases h2 : y < x
    · rw [if_pos h2]; exact ⟨by omega, by omega, by omega, by omega⟩
    · rw [if_neg h2]; exact ⟨by omega, by omega, by omega, by omega⟩
set_option maxRecDepth 100000 in
set_option maxHeartbeats 2000000 in
theorem cmp_mag {ok1 ok2 w va vb x y} (h1 : Wd ok1 w va (dg x)) (h2 : Wd ok2 w vb (dg y)) (ha : (dg x).length ≤ 1000000000) (hb : (dg y).length ≤ 1000000000) :
    Calls Tryz.prog 228 #[va, vb] w fun e w' => ∃ c, e = .returned (.int .i64 c) ∧ CmpS x y c ∧ Below w.heap.size w w' := by
  obtain ⟨A1, l1, c1, rfl⟩ := h1.shape
  obtain ⟨A2, l2, c2, rfl⟩ := h2.shape
  have e1 := h1.len_eq
  have e2 := h2.len_eq
  by_cases hl : l1 = l2
  · refine (callsIn_wide (n := 10)).1 ?_
    have hll : (dg x).length = (dg y).length := by omega
    have Hll := Lib.hid hll
    have E1 := Lib.hid e1
    have E2 := Lib.hid e2
    have hm : max (dg x).length (dg y).length = (dg x).length := by omega
    have Hm := Lib.hid hm
    have hb1 : l2 ≤ 1000000000 := by omega
    clear hll e1 e2 hm
    subst hl
    generalize hda : dg x = a at *
    generalize hdb : dg y = b at *
    have HA := Lib.hid hda
    have HB := Lib.hid hdb
    clear hda hdb
    refine callsIn_of_wp_marks Tryz.func228 rfl trivial ?_ rfl
    simp only [Tryz.ntmps228, List.size_toArray, List.length_cons, List.length_nil, Nat.reduceAdd, Nat.reduceSub, Array.replicate_succ, Array.replicate_zero, List.push_toArray, List.append_toArray, List.nil_append, List.cons_append]
    gi_wp2_with (gi_at_call 249; refine CallsIn.mono (callsIn_wide.2 pairs_c) ?_; rintro e w' ⟨rfl, rfl⟩)
    refine' wpIn_rangeFunc_ownF rfl (by omega) (gf := 256) (lb := #[.pointer (some ⟨w.heap.size + 1, 0, none⟩), .pointer (some ⟨w.heap.size + 1 + 1, 0, none⟩)]) rfl trivial (enters_of Tryz.func256 (by kernel_rfl) rfl)
      (pairs_stops (n := 9) (by omega) (ok := fun k => k < w.heap.size ∨ k = w.heap.size + 1 ∨ k = w.heap.size + 1 + 1) (va := .slice A1 l1 c1) (vb := .slice A2 l1 c2) (a := a) (b := b) ?p1 ?p2 (by simp) (by simp) ?p3 ?p4)
      KeepOk.trans ?p5 (Below.refl _ _) (fun _ => rfl)
      (fun pre W => W.heap[w.heap.size]? = some (.cells #[.int .i64 (cm (wv (pre.map fun x => a.getD x.val 0)) (wv (pre.map fun x => b.getD x.val 0)))] 3 (0, 0)) ∧ Below w.heap.size w W ∧ w.heap.size + 3 ≤ W.heap.size)
      (fun _ _ _ => False) ?p6 (fun _ _ _ _ _ hs _ _ => hs) ?p7 _ ?assign ?body ?done (fun _ _ _ _ _ _ h _ => h.elim)
    case assign =>
      intro l x W K hK
      simp only [pr64]
      gi_wp2
      exact hK
    case body =>
      rintro l pre x W ⟨hbx, hbl, hsz⟩ hlen
      have cP := cell_of_row W _ 0 _ 3 (0, 0) hbx
      simp only [List.getElem?_toArray, List.getElem?_cons_zero] at cP
      have fP : W.frozen? ⟨w.heap.size, 0, none⟩ = false := by simp [World.frozen?, hbx]
      have hsn := cm_snoc pre x (fun x => a.getD x.val 0) (fun x => b.getD x.val 0) (fun x => h1.okw.getD x.val) (fun x => h2.okw.getD x.val)
      have Hsn := Lib.hid hsn
      have HX := Lib.hid hbx
      clear hsn hbx
      have hnew : ∀ (v : Int), v = cm (wv ((pre ++ [x]).map fun x => a.getD x.val 0)) (wv ((pre ++ [x]).map fun x => b.getD x.val 0)) → (W.setCell ⟨w.heap.size, 0, none⟩ (.int .i64 v)).heap[w.heap.size]? = some (.cells #[.int .i64 (cm (wv ((pre ++ [x]).map fun x => a.getD x.val 0)) (wv ((pre ++ [x]).map fun x => b.getD x.val 0)))] 3 (0, 0)) := by
        rintro v rfl; exact Boxed.set _ HX.out
      have HN := Lib.hid hnew
      have hkp : ∀ (v : Value), KeepOk (fun k => k < w.heap.size ∨ k = w.heap.size + 1 ∨ k = w.heap.size + 1 + 1) W (W.setCell ⟨w.heap.size, 0, none⟩ v) := fun v => ⟨by simp [World.setCell], fun k hk => Below.heap_setCell _ _ _ _ (by simp; omega)⟩
      have HK := Lib.hid hkp
      clear hnew hkp
      by_cases d1 : wd a x.val < wd b x.val
      · have hv := Hsn.out
        rw [if_pos (by unfold wd at d1; omega)] at hv
        have Hv := Lib.hid hv
        clear hv
        gi_wp2
        exact ⟨KeepsOthers.setCell _ _ _, HK.out _, HN.out _ Hv.out.symm, hbl.setCell (Nat.le_refl _) _, by simp [World.setCell]; omega⟩
      · by_cases d2 : wd b x.val < wd a x.val
        · have hv := Hsn.out
          rw [if_neg (by unfold wd at d1; omega), if_pos (by unfold wd at d2; omega)] at hv
          have Hv := Lib.hid hv
          clear hv
          gi_wp2
          exact ⟨KeepsOthers.setCell _ _ _, HK.out _, HN.out _ Hv.out.symm, hbl.setCell (Nat.le_refl _) _, by simp [World.setCell]; omega⟩
        · have hv := Hsn.out
          rw [if_neg (by unfold wd at d1; omega), if_neg (by unfold wd at d2; omega)] at hv
          have hx3 := HX.out
          rw [← hv] at hx3
          have HX3 := Lib.hid hx3
          clear hv hx3
          gi_wp2
          exact ⟨KeepsOthers.refl _, KeepOk.refl _ _, HX3.out, hbl, hsz⟩
    case p1 =>
      have := heap_alloc_new (w.alloc (.cells #[.int .i64 0] 3)) (.cells #[.slice A1 l1 c1] 40)
      simp only [World.size_alloc] at this
      exact (Below.heap_alloc _ _ _ (by simp)).trans this
    case p2 =>
      have := heap_alloc_new ((w.alloc (.cells #[.int .i64 0] 3)).alloc (.cells #[.slice A1 l1 c1] 40)) (.cells #[.slice A2 l1 c2] 40)
      simp only [World.size_alloc] at this
      exact this
    case p3 => exact (old_wd h1).below (bal (bal (bal (b0 w))))
    case p4 => exact (old_wd h2).below (bal (bal (bal (b0 w))))
    case p5 =>
      intro W l o o' hl _ _ _
      refine ⟨by simp, fun k hk => World.putObj_heap_other ?_⟩
      simp at hl
      omega
    case p6 =>
      rintro pre X Y row ⟨hbx, hbl, hsz⟩ hg hr
      have hr2 : ∀ r, row = some r → ∃ o : Obj, X.heap[r]? = some o ∧ o.isCells = false := fun r e => (hr r e).2
      exact ⟨box_from hbx hg hr2, below_from hbl (B := w.heap.size) (Nat.le_refl _) hbl.size hg (fun r e => by have := (hr r e).1; simp at this; omega), Nat.le_trans hsz hg.size⟩
    case p7 =>
      refine ⟨?_, bal (bal (bal (b0 w))), by simp⟩
      exact (Below.heap_alloc _ _ _ (by simp; omega)).trans ((Below.heap_alloc _ _ _ (by simp)).trans (heap_alloc_new w _))
    case done =>
      rintro D xs W hD rfl ⟨hbx, hbl, hsz⟩ hdef
      have hfin : cm (wv ((prs a b).map fun x => a.getD x.val 0)) (wv ((prs a b).map fun x => b.getD x.val 0)) = cm x y := by
        unfold prs
        rw [wv_map_fin a _ (by omega), wv_map_fin b _ (by omega), ← HA.out, ← HB.out, wv_dg, wv_dg]
      rw [hfin] at hbx
      have cP := cell_of_row W _ 0 _ 3 (0, 0) hbx
      simp only [List.getElem?_toArray, List.getElem?_cons_zero] at cP
      clear hfin
      gi_wp2
      refine ⟨by simp, .inl ⟨_, _, rfl, run_takeDeferred hdef, ?_⟩⟩
      exact ⟨_, results_tmp rfl _ _ _, cm x y, rfl, CmpS.of_cm, below_putObj hbl hbl.size (by simp at hD; omega)⟩
  · have hc := CmpS.of_len (x := x) (y := y) (by omega) ha hb
    rw [← e1, ← e2] at hc
    have b1 : l1 ≤ 1000000000 := by omega
    have b2 : l2 ≤ 1000000000 := by omega
    have hne : ((l1 : Int) - (l2 : Int) == 0) = false := by simp; omega
    have hne2 : ((l1 : Int) - (l2 : Int) != 0) = true := by simp; omega
    clear e1 e2
    go_enter Tryz.func228, Tryz.ntmps228
    go_wp2
    go_ret
    exact ⟨_, rfl, hc, Below.refl _ _⟩
end Go.Proofs.YtdkfdamihnieiaaGreat
end
