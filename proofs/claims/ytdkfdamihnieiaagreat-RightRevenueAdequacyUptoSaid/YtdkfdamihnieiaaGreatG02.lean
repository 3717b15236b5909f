/- Contracts of package whole, part 2: mul, small. -/
import Derived.Test.YtdkfdamihnieiaaGreatG01
import Derived.RangeFuncWrites
import Derived.RangeFuncLeaves
import Derived.Shelf.Abstract
import Derived.OwnWalkIn
import Derived.RangeFuncCalls
import Derived.Laws.EntriesVeiled
import Derived.TacticsInMore
import Derived.LoopNIn
import Derived.LoopIn
import Derived.OwnWalk
import Derived.RangeFuncBox
set_option linter.unusedSimpArgs false
set_option linter.unusedVariables false
section
open Go Go.RowKit
namespace Go.Proofs.YtdkfdamihnieiaaGreat
open Go.Proofs
theorem Tryz.info94 : (Tryz.prog.info? 94).map (fun i => (i.zero, i.size, i.bytes)) = some (some (.int .u32 0), 1, 4) := by kernel_rfl
theorem info_parts' {P : Program} {t : TypeId} {z : Option Value} {n b : Nat} (h : (P.info? t).map (fun i => (i.zero, i.size, i.bytes)) = some (z, n, b)) :
    ∃ i, P.info? t = some i ∧ i.zero = z ∧ i.size = n ∧ i.bytes = b := by
  cases hi : P.info? t with
  | none => rw [hi] at h; cases h
  | some i => rw [hi] at h; simp at h; exact ⟨i, rfl, h.1, h.2.1, h.2.2⟩
theorem Tryz.under40 : Tryz.prog.underlying 40 = some (.slice 94) := by kernel_rfl
/-- make([]uint32, n). -/
theorem make_u32 (w : World) (n : Int) (h0 : 0 ≤ n) (h : n ≤ 70000000000000) : (Instr.makeSlice 40 (.int .i64 n) (.int .i64 n)).run Tryz.prog w =
    .ok (.slice (some ⟨w.heap.size, 0, none⟩) n.toNat n.toNat) (w.alloc (.cells (u32s (List.replicate n.toNat 0)).toArray 94)) := by
  obtain ⟨i, hi, hz, h1, h2⟩ := info_parts' Tryz.info94
  rw [run_make (P := Tryz.prog) w 40 94 i (.int .u32 0) Tryz.under40 hi hz .i64 .i64 n n h0 (Int.le_refl _) (by rw [h2]; omega) (by omega)]
  rw [h1, Nat.mul_one, show (Value.int .u32 0).cells = #[Value.int .u32 0] from rfl, madeCells_u32]
structure MulO (a b : List Nat) (k : Nat) (out : List Nat) : Prop where
  len : out.length = a.length + b.length
  ok : okw out
  val : wv out = wv (a.take k) * wv b
  zero : ∀ j, k + b.length ≤ j → out.getD j 0 = 0
structure MulI (a b : List Nat) (k j cy : Nat) (out : List Nat) : Prop where
  len : out.length = a.length + b.length
  ok : okw out
  carry : cy < 4294967296
  val : wv out + pw (k + j) * cy = wv (a.take k) * wv b + pw k * (a.getD k 0 * wv (b.take j))
  zero : ∀ j, k + b.length ≤ j → out.getD j 0 = 0
theorem MulO.start (a b : List Nat) : MulO a b 0 (List.replicate (a.length + b.length) 0) :=
  ⟨by simp, okw_replicate _, by simp [wv_replicate, wv], fun j _ => by simp [List.getD_eq_getElem?_getD, List.getElem?_replicate]; split <;> rfl⟩
theorem MulO.inner {a b k out} (h : MulO a b k out) : MulI a b k 0 0 out := ⟨h.len, h.ok, by omega, by simp [h.val, wv], h.zero⟩
theorem mul_arith (x y z cy p q pj S wj wo wo' t : Nat) (ht : x * y + z + cy = t) (hs : wo' + p * z = wo + p * (t % 4294967296)) (hv : wo + p * cy = S + q * (x * wj)) (hp : p = q * pj) :
    wo' + 4294967296 * p * (t / 4294967296) = S + q * (x * (wj + pj * y)) := by
  have e1 : q * (x * (wj + pj * y)) = q * (x * wj) + p * (x * y) := by
    rw [hp, Nat.mul_add, Nat.mul_add]; simp only [Nat.mul_assoc, Nat.mul_left_comm]
  have e2 : p * t = 4294967296 * p * (t / 4294967296) + p * (t % 4294967296) := by
    conv => lhs; rw [← Nat.div_add_mod t 4294967296]
    rw [Nat.mul_add]; simp only [Nat.mul_assoc, Nat.mul_left_comm]
  have e3 : p * t = p * (x * y) + p * z + p * cy := by rw [← ht]; simp only [Nat.mul_add]
  rw [e1]
  omega
/-- One step of the inner loop. -/
theorem MulI.step {a b k j cy out} (h : MulI a b k j cy out) (ha : okw a) (hb : okw b) (hk : k < a.length) (hj : j < b.length) :
    MulI a b k (j + 1) ((a.getD k 0 * b.getD j 0 + out.getD (k + j) 0 + cy) / 4294967296) (out.set (k + j) ((a.getD k 0 * b.getD j 0 + out.getD (k + j) 0 + cy) % 4294967296)) := by
  have h1 := ha.getD k
  have h2 := hb.getD j
  have h3 := h.ok.getD (k + j)
  have h4 := h.carry
  have hm : a.getD k 0 * b.getD j 0 ≤ 4294967295 * 4294967295 := Nat.mul_le_mul (by omega) (by omega)
  have hl : k + j < out.length := by rw [h.len]; omega
  have hs := wv_set out (k + j) ((a.getD k 0 * b.getD j 0 + out.getD (k + j) 0 + cy) % 4294967296) hl
  refine ⟨by simp [h.len], h.ok.set _ (Nat.mod_lt _ (by omega)), by omega, ?_, fun i hi => ?_⟩
  · rw [wv_take_succ b j, show k + (j + 1) = (k + j) + 1 by omega, pw_succ]
    exact mul_arith _ _ _ _ _ _ _ _ _ _ _ _ rfl hs h.val (pw_add k j)
  · rw [getD_set_ne _ _ _ _ (by omega)]; exact h.zero i hi
theorem wd_cast (ws : List Nat) (k : Nat) : wd ws k = ((ws.getD k 0 : Nat) : Int) := rfl
theorem MulI.bound {a b k j cy out} (h : MulI a b k j cy out) (ha : okw a) (hb : okw b) : 0 ≤ wd a k * wd b j ∧ wd a k * wd b j ≤ 18446744065119617025 ∧ 0 ≤ wd out (k + j) ∧ wd out (k + j) < 4294967296 ∧ 0 ≤ wd a k ∧ wd a k < 4294967296 ∧ 0 ≤ wd b j ∧ wd b j < 4294967296 := by
  have h1 := ha.getD k
  have h2 := hb.getD j
  have h3 := h.ok.getD (k + j)
  have hm : a.getD k 0 * b.getD j 0 ≤ 4294967295 * 4294967295 := Nat.mul_le_mul (by omega) (by omega)
  simp only [wd_cast, ← Int.natCast_mul]
  omega
/-- The end of the inner loop: the carry is stored. -/
theorem MulI.outer {a b k cy out} (h : MulI a b k b.length cy out) (hk : k < a.length) : MulO a b (k + 1) (out.set (k + b.length) cy) := by
  have hl : k + b.length < out.length := by rw [h.len]; omega
  have hs := wv_set out (k + b.length) cy hl
  have hz := h.zero (k + b.length) (Nat.le_refl _)
  have hv := h.val
  rw [hz] at hs
  refine ⟨by simp [h.len], h.ok.set _ h.carry, ?_, fun i hi => ?_⟩
  · rw [wv_take_succ, Nat.add_mul, Nat.mul_assoc]
    rw [wv_take_all (Nat.le_refl _)] at hv
    omega
  · rw [getD_set_ne _ _ _ _ (by omega)]; exact h.zero i (by omega)
set_option maxHeartbeats 1000000 in
theorem mul_c {ok1 ok2 w va vb a b} (h1 : Wd ok1 w va a) (h2 : Wd ok2 w vb b) (ha : a.length ≤ 1000000000) (hb : b.length ≤ 1000000000) :
    Calls Tryz.prog 172 #[va, vb] w (RetW w fun w' v => ∃ r, Wd (fresh w) w' v r ∧ wv r = wv a * wv b ∧ r.length = a.length + b.length) := by
  obtain ⟨A1, c1, rfl, r1⟩ := h1
  obtain ⟨A2, c2, rfl, r2⟩ := h2
  have hmk := make_u32 w ((a.length : Int) + (b.length : Int)) (by omega) (by omega)
  go_enter Tryz.func172, Tryz.ntmps172
  go_wp2
  clear hmk
  go_loopw [19] (fun i wr => ∃ k out, k ≤ a.length ∧ i = .int .i64 (k : Nat) ∧ Blk wr w.heap.size 94 (u32s out) ∧ Below w.heap.size w wr ∧ MulO a b k out) (fun i _ => a.length - (intOf i).toNat)
  case atStart => exact ⟨0, _, Nat.zero_le _, rfl, Blk.new w _ 94, bal (b0 _), MulO.start a b⟩
  case round =>
    obtain ⟨k, out, hk, rfl, hown, hbl, hM⟩ := hrel
    by_cases hlt : k < a.length
    · obtain ⟨bA, oA, rfl, _, cA⟩ := r1.cells (by omega)
      have cAk := (hbl.cell (p := ⟨bA, oA + k, none⟩) (World.block_lt_of_cell? w _ (cA k hlt))).trans (cA k hlt)
      clear cA
      have hM1 := hM.inner
      clear hM
      have hm2 := r2.len
      obtain ⟨wo, rfl⟩ : ∃ wo : World, wo = wr := ⟨_, rfl⟩
      go_wp2
      go_loopw [8, 26] (fun cv jv wr => ∃ (j cy : Nat) (out : List Nat), j ≤ b.length ∧ cv = .int .u64 (cy : Int) ∧ jv = .int .i64 (j : Int) ∧ Blk wr w.heap.size 94 (u32s out) ∧ Below w.heap.size w wr ∧ MulI a b k j cy out) (fun _ j _ => b.length - (intOf j).toNat)
      case atStart => exact ⟨0, 0, out, Nat.zero_le _, rfl, rfl, hown, hbl, hM1⟩
      case round =>
        clear hown hbl hM1 cAk out
        obtain ⟨j, cy, out, hj, rfl, rfl, hown, hbl, hM⟩ := hrel
        by_cases hjl : j < b.length
        · obtain ⟨bB, oB, rfl, _, cB⟩ := r2.cells (by omega)
          have cBj := (hbl.cell (p := ⟨bB, oB + j, none⟩) (World.block_lt_of_cell? w _ (cB j hjl))).trans (cB j hjl)
          clear cB
          have hbd := hM.bound r1.okw r2.okw
          obtain ⟨q1, q2, q3, q4, q5, q6, q7, q8⟩ := hbd
          have hcy := hM.carry
          have hol : k + j < out.length := by rw [hM.len]; omega
          have cO := (hown.cell (k + j)).trans (u32s_get hol)
          have fO := hown.frozen (k + j)
          go_wp2
          have hst := hM.step r1.okw r2.okw hlt hjl
          have et : ((cy : Int) + (wd a k * wd b j + wd out (k + j))) = ((a.getD k 0 * b.getD j 0 + out.getD (k + j) 0 + cy : Nat) : Int) := by
            simp only [wd_cast, Int.natCast_add, Int.natCast_mul]; omega
          generalize a.getD k 0 * b.getD j 0 + out.getD (k + j) 0 + cy = t at *
          refine ⟨⟨j + 1, _, _, by omega, val_int (by rw [et]; rfl), val_int (by omega), hown.setW _ _ (by rw [et]; rfl), hbl.setCell (Nat.le_refl _) _, hst⟩, by simp [intOf]; omega⟩
        · obtain rfl : j = b.length := by omega
          have hol : k + b.length < out.length := by rw [hM.len]; omega
          have cO := (hown.cell (k + b.length)).trans (u32s_get hol)
          have fO := hown.frozen (k + b.length)
          have hcy := hM.carry
          go_wp2
          have hst := hM.outer hlt
          refine ⟨⟨k + 1, _, by omega, val_int (by omega), hown.setW _ cy rfl, hbl.setCell (Nat.le_refl _) _, hst⟩, by simp [intOf]; omega⟩
    · obtain rfl : k = a.length := by omega
      go_wp2
      go_ret
      refine ⟨_, _, _, rfl, hbl, out, Wd.mk (hown.rd (Nat.le_refl _) hM.ok (by rw [hM.len]; exact Nat.le_refl _) (by unfold maxLen; omega)) hM.len.symm, ?_, hM.len⟩
      rw [hM.val, wv_take_all (Nat.le_refl _)]

/-- Short division, k words from the top done. -/
structure SmI (a : List Nat) (n k r : Nat) (out : List Nat) : Prop where
  len : out.length = a.length
  ok : okw out
  rem : r = wv (a.drop (a.length - k)) % n
  val : wv (out.drop (a.length - k)) = wv (a.drop (a.length - k)) / n
theorem SmI.start (a : List Nat) (n : Nat) : SmI a n 0 0 (List.replicate a.length 0) :=
  ⟨by simp, okw_replicate _, by simp [wv], by simp [wv]⟩
theorem SmI.step {a n k r out} (h : SmI a n k r out) (ha : okw a) (hn : 0 < n) (hk : k < a.length) :
    SmI a n (k + 1) ((r * 4294967296 + a.getD (a.length - 1 - k) 0) % n) (out.set (a.length - 1 - k) ((r * 4294967296 + a.getD (a.length - 1 - k) 0) / n)) ∧ (r * 4294967296 + a.getD (a.length - 1 - k) 0) / n < 4294967296 := by
  have h1 := ha.getD (a.length - 1 - k)
  have hr : r < n := by rw [h.rem]; exact Nat.mod_lt _ hn
  have e : a.length - (k + 1) = a.length - 1 - k := by omega
  have e2 : a.length - 1 - k + 1 = a.length - k := by omega
  have hd := wv_drop a (a.length - 1 - k) (by omega)
  rw [e2] at hd
  have hq : (r * 4294967296 + a.getD (a.length - 1 - k) 0) / n < 4294967296 := by
    rw [Nat.div_lt_iff_lt_mul hn]
    have : (r + 1) * 4294967296 ≤ n * 4294967296 := Nat.mul_le_mul_right _ hr
    rw [Nat.mul_comm 4294967296 n]; omega
  have key : wv (a.drop (a.length - k)) = n * (wv (a.drop (a.length - k)) / n) + r := by rw [h.rem]; exact (Nat.div_add_mod _ _).symm
  have hv := h.val
  generalize wv (a.drop (a.length - k)) = H at *
  generalize a.getD (a.length - 1 - k) 0 = x at *
  have hH : x + 4294967296 * H = (r * 4294967296 + x) + n * (4294967296 * (H / n)) := by
    have : 4294967296 * H = 4294967296 * (n * (H / n) + r) := by rw [← key]
    rw [Nat.mul_add] at this
    rw [show n * (4294967296 * (H / n)) = 4294967296 * (n * (H / n)) by simp only [Nat.mul_left_comm]]
    omega
  refine ⟨⟨by simp [h.len], h.ok.set _ hq, ?_, ?_⟩, hq⟩
  · rw [e, hd, hH, Nat.add_mul_mod_self_left]
  · rw [e, hd, hH, Nat.add_mul_div_left _ _ hn, wv_drop _ _ (by simp; rw [h.len]; omega), getD_set_self _ _ _ (by rw [h.len]; omega), e2, List.drop_set_of_lt (by omega), hv]
set_option maxHeartbeats 1000000 in
theorem small_c {ok w va a} (n : Nat) (h1 : Wd ok w va a) (ha : a.length ≤ 1000000000) (hn : 0 < n) (hn2 : n < 4294967296) :
    Calls Tryz.prog 257 #[va, .int .u64 (n : Int)] w fun e w' => ∃ A l c, e = .returned (.tuple #[.slice A l c, .int .u64 ((wv a % n : Nat) : Int)]) ∧ Below w.heap.size w w' ∧ Wd (fresh w) w' (.slice A l c) (dg (wv a / n)) := by
  obtain ⟨A1, c1, rfl, r1⟩ := h1
  have hmk := make_u32 w (a.length : Int) (by omega) (by omega)
  have hn' : (1 : Int) ≤ (n : Int) := by omega
  go_enter Tryz.func257, Tryz.ntmps257
  go_wp2
  clear hmk
  go_loopw [5, 13] (fun rv i wr => ∃ (k r : Nat) (out : List Nat), k ≤ a.length ∧ i = .int .i64 (k : Int) ∧ rv = .int .u64 (r : Int) ∧ Blk wr w.heap.size 94 (u32s out) ∧ Below w.heap.size w wr ∧ SmI a n k r out) (fun _ i _ => a.length - (intOf i).toNat)
  case atStart => exact ⟨0, 0, _, Nat.zero_le _, rfl, rfl, Blk.new w _ 94, bal (b0 _), SmI.start a n⟩
  case round =>
    obtain ⟨k, r, out, hk, rfl, rfl, hown, hbl, hM⟩ := hrel
    have hr : r < n := by rw [hM.rem]; exact Nat.mod_lt _ hn
    by_cases hlt : k < a.length
    · obtain ⟨bA, oA, rfl, _, cA⟩ := r1.cells (by omega)
      obtain ⟨hst0, hq2⟩ := hM.step r1.okw hn hlt
      have hst := Lib.hid hst0
      clear hst0
      have hpe : (a.length : Int) - 1 - (k : Int) = ((a.length - 1 - k : Nat) : Int) := by omega
      have hpl : a.length - 1 - k < a.length := by omega
      have h1 := r1.okw.getD (a.length - 1 - k)
      generalize a.length - 1 - k = p at *
      have cAk := (hbl.cell (p := ⟨bA, oA + p, none⟩) (World.block_lt_of_cell? w _ (cA _ hpl))).trans (cA _ hpl)
      clear cA
      have hol : p < out.length := by rw [hM.len]; omega
      have fO := hown.frozen p
      have cO := (hown.cell p).trans (u32s_get hol)
      have q1 : 0 ≤ wd a p := by unfold wd; omega
      have q2 : wd a p < 4294967296 := by unfold wd; omega
      have ht2 : (r : Int) * 4294967296 + wd a p = ((r * 4294967296 + a.getD p 0 : Nat) : Int) := by unfold wd; omega
      have ht3 : r * 4294967296 + a.getD p 0 < 18446744073709551616 := by omega
      generalize r * 4294967296 + a.getD p 0 = t at *
      have e1 : (t : Int).tdiv (n : Int) = ((t / n : Nat) : Int) := by rw [Int.ofNat_tdiv]
      have e4 : (t : Int).tmod (n : Int) = ((t % n : Nat) : Int) := by rw [Int.ofNat_tmod]
      have hq1 : t / n ≤ t := Nat.div_le_self _ _
      generalize t / n = q at *
      generalize t % n = m at *
      have hn0 : n ≠ 0 := by omega
      go_wp2
      clear ht2
      have e2 : IntKind.u64.wrap (q : Int) = (q : Int) := by simp only [IntKind.wrap, IntKind.bits, IntKind.signed]; simp; omega
      have e3 : IntKind.u32.wrap (q : Int) = (q : Int) := by simp only [IntKind.wrap, IntKind.bits, IntKind.signed]; simp; omega
      go_region_held3 (fun _ => True) (trivial) (fail)
      clear e1 e2 e3 e4
      go_wp2
      refine ⟨⟨k + 1, m, _, by omega, val_int (by omega), rfl, (hown.setW p q rfl).dr, (hbl.setCell (p := ⟨w.heap.size, p, none⟩) (Nat.le_refl _) _).drew, hst.out⟩, by simp [intOf]; omega⟩
    · obtain rfl : k = a.length := by omega
      have g1 : Wd (fresh w) wr (.slice (some ⟨w.heap.size, 0, none⟩) a.length a.length) out := Wd.mk (hown.rd (Nat.le_refl _) hM.ok (by rw [hM.len]; exact Nat.le_refl _) (by unfold maxLen; omega)) hM.len.symm
      go_wp2_with (go_at_call 173; (with_reducible refine Calls.mono (trim_c g1) ?_); rintro e w1 ⟨A1, l1, c1, rfl, h1, rfl⟩)
      go_ret2
      have hv := hM.val
      have hr2 := hM.rem
      rw [Nat.sub_self, List.drop_zero, List.drop_zero] at hv
      rw [Nat.sub_self, List.drop_zero] at hr2
      rw [hv] at h1
      exact ⟨A1, l1, c1, by rw [← hr2]; rfl, hbl, h1⟩
end Go.Proofs.YtdkfdamihnieiaaGreat
end
section
/- Contracts of package whole, part 3: the iterator of two magnitudes; add, sub, cmp. -/
open Go Go.RowKit Go.Shelf
namespace Go.Proofs.YtdkfdamihnieiaaGreat
open Go.Proofs
attribute [local go_sem] Oper.semAt_some

theorem wide_fn (f : FuncId) : Fence.wide.fn f = True := rfl
theorem wide_depth : Fence.wide.depth = none := rfl
/-- Blocks that 'ok' lets lie as they lay. -/
def KeepOk (ok : Nat → Prop) (A B : World) : Prop := A.heap.size ≤ B.heap.size ∧ ∀ k, ok k → B.heap[k]? = A.heap[k]?
theorem KeepOk.refl (ok : Nat → Prop) (A : World) : KeepOk ok A A := ⟨Nat.le_refl _, fun _ _ => rfl⟩
theorem KeepOk.trans {ok : Nat → Prop} {A B C : World} (h : KeepOk ok A B) (k : KeepOk ok B C) : KeepOk ok A C := ⟨Nat.le_trans h.1 k.1, fun i hi => (k.2 i hi).trans (h.2 i hi)⟩
theorem Rd.kept {ok : Nat → Prop} {A B : World} {ad c ws} (h : Rd ok A ad c ws) (k : KeepOk ok A B) : Rd ok B ad c ws := by
  refine ⟨h.cap, h.lim, h.okw, fun h0 => ?_⟩
  obtain ⟨b, o, hA, hok, hc⟩ := h.cells h0
  exact ⟨b, o, hA, hok, fun j hj => (World.cell?_of_block (w := A) (a := ⟨b, o + j, none⟩) (k.2 b hok)).trans (hc j hj)⟩
theorem Wd.kept {ok : Nat → Prop} {A B : World} {v ws} (h : Wd ok A v ws) (k : KeepOk ok A B) : Wd ok B v ws := by
  obtain ⟨ad, c, e, h⟩ := h; exact ⟨ad, c, e, h.kept k⟩

/-- The places of the longer magnitude. -/
def prs (a b : List Nat) : List (Fin (max a.length b.length)) := List.finRange _
theorem prs_length (a b : List Nat) : (prs a b).length = max a.length b.length := by simp [prs]
theorem prs_take (a b : List Nat) (k : Nat) (h : k < max a.length b.length) : (prs a b).take (k + 1) = (prs a b).take k ++ [⟨k, h⟩] := by
  have hl : k < (prs a b).length := by rw [prs_length]; exact h
  rw [List.take_succ_eq_append_getElem hl]
  simp [prs]
/-- The pair of words at a place. -/
def pr64 (a b : List Nat) (x : Fin (max a.length b.length)) : Array Value := #[.int .u64 (wd a x), .int .u64 (wd b x)]
set_option maxRecDepth 100000 in
set_option maxHeartbeats 1000000 in
theorem pairs1_in (n : Nat) (hn : 1 ≤ n) (l Ba Bb : Nat) (ok : Nat → Prop) (va vb : Value) (a b : List Nat) (J Jx : List (Fin (max a.length b.length)) → World → Prop)
    (hY : ∀ pre x W, J pre W → pre.length < (prs a b).length → YieldAt Fence.wide (n - 1) Tryz.prog l (pr64 a b x) W fun e W' =>
      (e = .returned (.bool true) ∧ J (pre ++ [x]) W' ∧ KeepOk ok W W') ∨ (e = .returned (.bool false) ∧ Jx (pre ++ [x]) W'))
    (W : World) (hBa : W.heap[Ba]? = some (.cells #[va] 40 (0, 0))) (hBb : W.heap[Bb]? = some (.cells #[vb] 40 (0, 0))) (oa : ok Ba) (ob : ok Bb) (ha : Wd ok W va a) (hb : Wd ok W vb b) (h0 : J [] W) :
    CallsIn Fence.wide n Tryz.prog 256 #[.func (.yield l) #[] #[], .pointer (some ⟨Ba, 0, none⟩), .pointer (some ⟨Bb, 0, none⟩)] W fun e W' => (∃ v, e = .returned v) ∧
      ((∃ ys, ys = prs a b ∧ J ys W') ∨ (∃ pre, pre <+: prs a b ∧ Jx pre W')) := by
  obtain ⟨A1, c1, rfl, r1⟩ := ha
  obtain ⟨A2, c2, rfl, r2⟩ := hb
  have m1 := r1.len
  have m2 := r2.len
  have cA := cell_of_row W Ba 0 #[.slice A1 a.length c1] 40 (0, 0) hBa
  have cB := cell_of_row W Bb 0 #[.slice A2 b.length c2] 40 (0, 0) hBb
  simp only [List.getElem?_toArray, List.getElem?_cons_zero] at cA cB
  refine callsIn_of_wp Tryz.func256 rfl trivial ?_ rfl
  simp only [Tryz.ntmps256, List.size_toArray, List.length_cons, List.length_nil, Nat.reduceAdd, Nat.reduceSub, Array.replicate_succ, Array.replicate_zero, List.push_toArray, List.append_toArray, List.nil_append, List.cons_append]
  obtain ⟨N, hN⟩ : ∃ N, N = max a.length b.length := ⟨_, rfl⟩
  have hN1 : a.length ≤ N := by omega
  have hN2 : b.length ≤ N := by omega
  have hN3 : N ≤ 9223372036854775807 := by omega
  have hN4 : N = a.length ∨ N = b.length := by omega
  have HN := Lib.hid hN
  clear hN
  gi_wp2
  all_goals
    gi_loopw [12] (fun i wr => ∃ k : Nat, i = .int .i64 (k : Int) ∧ k ≤ N ∧ J ((prs a b).take k) wr ∧ KeepOk ok W wr) (fun i _ => N - (intOf i).toNat)
    case atStart => exact ⟨0, rfl, Nat.zero_le _, by simpa using h0, KeepOk.refl _ _⟩
    case round =>
      obtain ⟨k, rfl, hk, hJs, hkp⟩ := hrel
      by_cases hlt : k < N
      · have cAr := (World.cell?_of_block (w := W) (a := ⟨Ba, 0, none⟩) (hkp.2 Ba oa)).trans cA
        have cBr := (World.cell?_of_block (w := W) (a := ⟨Bb, 0, none⟩) (hkp.2 Bb ob)).trans cB
        obtain ⟨fn, tmps, assign, body, hy, hR⟩ := hY _ ⟨k, by rw [← HN.out]; exact hlt⟩ wr hJs (by have := HN.out; rw [prs_length, List.length_take, prs_length]; omega)
        have hy' : Sem.run Tryz.prog (Instr.yield l #[.int .u64 (wd a k), .int .u64 (wd b k)]) wr = .ok (.round l fn tmps assign body) wr := hy
        clear hy
        have htk := prs_take a b k (by rw [← HN.out]; exact hlt)
        have Htk := Lib.hid htk
        clear htk
        have b1 : 0 ≤ wd a k ∧ wd a k < 4294967296 := by have := r1.okw.getD k; unfold wd; omega
        have b2 : 0 ≤ wd b k ∧ wd b k < 4294967296 := by have := r2.okw.getD k; unfold wd; omega
        obtain ⟨b11, b12⟩ := b1
        obtain ⟨b21, b22⟩ := b2
        by_cases ka : k < a.length
        · obtain ⟨bA, oA, rfl, okA, cA'⟩ := r1.cells (by omega)
          have cAk := (World.cell?_of_block (w := W) (a := ⟨bA, oA + k, none⟩) (hkp.2 bA okA)).trans (cA' k ka)
          clear cA'
          by_cases kb : k < b.length
          · obtain ⟨bB, oB, rfl, okB, cB'⟩ := r2.cells (by omega)
            have cBk := (World.cell?_of_block (w := W) (a := ⟨bB, oB + k, none⟩) (hkp.2 bB okB)).trans (cB' k kb)
            clear cB'
            gi_wp2
            refine hR.mono ?_
            rintro e W3 (⟨rfl, hJ3, hk3⟩ | ⟨rfl, hJx3⟩)
            · gi_wp2
              go_roundw
              case rel => exact ⟨k + 1, by go_num, by omega, by rw [Htk.out]; exact hJ3, hkp.trans hk3⟩
              case measure => simp [intOf]; omega
            · gi_wp2
              refine bodyPost_ret (results_none rfl _ _ _) rfl ?_
              exact ⟨⟨_, rfl⟩, .inr ⟨_, by rw [← Htk.out]; exact List.take_prefix _ _, hJx3⟩⟩
          · first
            | (exfalso; omega)
            | (
                have z : wd b k = 0 := by unfold wd; rw [List.getD_eq_getElem?_getD, List.getElem?_eq_none (by omega)]; rfl
                rw [z] at hy'
                clear z b21 b22
                gi_wp2
                refine hR.mono ?_
                rintro e W3 (⟨rfl, hJ3, hk3⟩ | ⟨rfl, hJx3⟩)
                · gi_wp2
                  go_roundw
                  case rel => exact ⟨k + 1, by go_num, by omega, by rw [Htk.out]; exact hJ3, hkp.trans hk3⟩
                  case measure => simp [intOf]; omega
                · gi_wp2
                  refine bodyPost_ret (results_none rfl _ _ _) rfl ?_
                  exact ⟨⟨_, rfl⟩, .inr ⟨_, by rw [← Htk.out]; exact List.take_prefix _ _, hJx3⟩⟩
              )
        · first
          | (exfalso; omega)
          | (
              have z : wd a k = 0 := by unfold wd; rw [List.getD_eq_getElem?_getD, List.getElem?_eq_none (by omega)]; rfl
              rw [z] at hy'
              clear z b11 b12
              have kb : k < b.length := by omega
              obtain ⟨bB, oB, rfl, okB, cB'⟩ := r2.cells (by omega)
              have cBk := (World.cell?_of_block (w := W) (a := ⟨bB, oB + k, none⟩) (hkp.2 bB okB)).trans (cB' k kb)
              clear cB'
              gi_wp2
              refine hR.mono ?_
              rintro e W3 (⟨rfl, hJ3, hk3⟩ | ⟨rfl, hJx3⟩)
              · gi_wp2
                go_roundw
                case rel => exact ⟨k + 1, by go_num, by omega, by rw [Htk.out]; exact hJ3, hkp.trans hk3⟩
                case measure => simp [intOf]; omega
              · gi_wp2
                refine bodyPost_ret (results_none rfl _ _ _) rfl ?_
                exact ⟨⟨_, rfl⟩, .inr ⟨_, by rw [← Htk.out]; exact List.take_prefix _ _, hJx3⟩⟩
            )
      · obtain rfl : k = N := by omega
        have hJe : J (prs a b) wr := by rw [List.take_of_length_le (by rw [prs_length, ← HN.out]; exact Nat.le_refl _)] at hJs; exact hJs
        gi_wp2
        go_end0
        exact ⟨⟨_, rfl⟩, .inl ⟨_, rfl, hJe⟩⟩
end Go.Proofs.YtdkfdamihnieiaaGreat
end
section
/- Contracts of package whole, part 4: carrier and its two closures; pairs. -/
open Go Go.RowKit Go.Shelf
namespace Go.Proofs.YtdkfdamihnieiaaGreat
open Go.Proofs

theorem pairs_c {w : World} {A1 A2 : Option Addr} {l1 c1 l2 c2 : Nat} : Calls Tryz.prog 249 #[.slice A1 l1 c1, .slice A2 l2 c2] w fun e w' =>
    e = .returned (.func (.func 256) #[] #[.pointer (some ⟨w.heap.size, 0, none⟩), .pointer (some ⟨w.heap.size + 1, 0, none⟩)]) ∧ w' = (w.alloc (.cells #[.slice A1 l1 c1] 40)).alloc (.cells #[.slice A2 l2 c2] 40) := by
  go_enter Tryz.func249, Tryz.ntmps249
  go_wp2
  go_ret
  exact ⟨rfl, rfl⟩
theorem pairs_stops {n : Nat} (hn : 1 ≤ n) {Ba Bb : Nat} {ok : Nat → Prop} {va vb : Value} {a b : List Nat} {w : World} (hBa : w.heap[Ba]? = some (.cells #[va] 40 (0, 0))) (hBb : w.heap[Bb]? = some (.cells #[vb] 40 (0, 0)))
    (oa : ok Ba) (ob : ok Bb) (ha : Wd ok w va a) (hb : Wd ok w vb b) :
    SeqStopsK Fence.wide n Tryz.prog 256 #[.pointer (some ⟨Ba, 0, none⟩), .pointer (some ⟨Bb, 0, none⟩)] (pr64 a b) (KeepOk ok) (fun ys => ys = prs a b) (fun pre => pre <+: prs a b) (prs a b).length w := fun l J Jx W hW _ _ hY h0 =>
  pairs1_in n hn l Ba Bb ok va vb a b J Jx hY W ((hW.block Ba (Array.getElem?_eq_some_iff.1 hBa).1).trans hBa) ((hW.block Bb (Array.getElem?_eq_some_iff.1 hBb).1).trans hBb) oa ob (ha.below hW) (hb.below hW) h0

/-- The state of a carrier: its two boxes; the words so far stand in a row of its own from block n0 on. -/
structure CarS (n0 : Nat) (w : World) (bo bc : Nat) (ws : List Nat) (cy : Nat) : Prop where
  out : ∃ sv, w.heap[bo]? = some (.cells #[sv] 40 (0, 0)) ∧ w.ownsRow n0 94 1 sv ws.length (u32s ws)
  car : w.heap[bc]? = some (.cells #[.int .u64 (cy : Int)] 199 (0, 0))
  okw : okw ws
theorem carrier_c {w : World} : Calls Tryz.prog 248 #[] w fun e w' =>
    e = .returned (.tuple #[.func (.func 254) #[] #[.pointer (some ⟨w.heap.size + 1, 0, none⟩), .pointer (some ⟨w.heap.size, 0, none⟩)], .func (.func 255) #[] #[.pointer (some ⟨w.heap.size, 0, none⟩), .pointer (some ⟨w.heap.size + 1, 0, none⟩)]]) ∧
    w' = (w.alloc (.cells #[.slice none 0 0] 40)).alloc (.cells #[.int .u64 0] 199) := by
  go_enter Tryz.func248, Tryz.ntmps248
  go_wp2
  go_ret2
  exact ⟨rfl, rfl⟩
theorem CarS.start (w : World) {n0 : Nat} : CarS n0 ((w.alloc (.cells #[.slice none 0 0] 40)).alloc (.cells #[.int .u64 0] 199)) w.heap.size (w.heap.size + 1) [] 0 := by
  refine ⟨⟨_, ?_, World.ownsRow_nil _ _ _ _⟩, ?_, okw_nil⟩
  · exact (Below.heap_alloc _ _ _ (by simp)).trans (heap_alloc_new w _)
  · have := heap_alloc_new (w.alloc (.cells #[.slice none 0 0] 40)) (.cells #[.int .u64 0] 199)
    rwa [World.size_alloc] at this
set_option maxHeartbeats 1000000 in
theorem put_c {n0 nb : Nat} {w : World} {bo bc : Nat} {ws : List Nat} {cy : Nat} {v : Nat} (h : CarS n0 w bo bc ws cy) (hne : bo ≠ bc) (hv : v + cy < 18446744073709551616) (hn0 : n0 ≤ w.heap.size) (hbo : bo < n0) (hbc : bc < n0) (h1 : nb ≤ bo) (h2 : nb ≤ bc) (h3 : nb ≤ n0) (hl : ws.length ≤ 10000000000) :
    Calls Tryz.prog 254 #[.int .u64 (v : Int), .pointer (some ⟨bc, 0, none⟩), .pointer (some ⟨bo, 0, none⟩)] w fun e w' =>
      e = .returned (.tuple #[]) ∧ CarS n0 w' bo bc (ws ++ [(v + cy) % 4294967296]) ((v + cy) / 4294967296) ∧ w.heap.size ≤ w'.heap.size ∧ (∀ k, k < w.heap.size → k ≠ bo → k ≠ bc → k < n0 → w'.heap[k]? = w.heap[k]?) ∧ Below nb w w' ∧ KeepsOthers w w' ∧ (∀ (k : Nat) (cs : Array Value) (T : TypeId) (fr : Nat × Nat), w.heap[k]? = some (Obj.cells cs T fr) → T ≠ 94 → k ≠ bo → k ≠ bc → w'.heap[k]? = some (Obj.cells cs T fr)) := by
  obtain ⟨⟨sv, hso, hown⟩, hsc, hok⟩ := h
  obtain ⟨A, c, rfl⟩ : ∃ A c, sv = .slice A ws.length c := by
    rcases hown.2 with ⟨rfl, h0⟩ | ⟨g, cap, cur, rfl, _⟩
    · exact ⟨none, 0, by rw [h0]⟩
    · exact ⟨_, _, rfl⟩
  have cO := cell_of_row w bo 0 _ 40 (0, 0) hso
  have cC := cell_of_row w bc 0 _ 199 (0, 0) hsc
  simp only [List.getElem?_toArray, List.getElem?_cons_zero] at cO cC
  obtain ⟨i0, hi, hz0, hz1, hz2⟩ := info_parts' Tryz.info94
  have hv0 : (v : Int) + (cy : Int) = ((v + cy : Nat) : Int) := by omega
  generalize v + cy = t at *
  have hco := World.new_ne w _ cO
  have hcc := World.new_ne w _ cC
  have hlw : (w.alloc (.cells #[.int .u32 ((t : Int) % 4294967296)] 94)).cell? ((⟨w.heap.size, 0, none⟩ : Addr).add 0) = some (.int .u32 ((t : Int) % 4294967296)) := by
    rw [show ((⟨w.heap.size, 0, none⟩ : Addr).add 0) = ⟨w.heap.size, 0, none⟩ by unfold Addr.add; split <;> simp_all]
    rw [cell_of_row _ _ _ _ _ _ (heap_alloc_new w _)]; rfl
  have hnw : ∀ j u, [Value.int .u32 ((t : Int) % 4294967296)][j]? = some u → (w.alloc (.cells #[.int .u32 ((t : Int) % 4294967296)] 94)).cell? ((⟨w.heap.size, 0, none⟩ : Addr).add j) = some u := by
    intro j u hu
    cases j with
    | zero => simp at hu; subst hu; exact hlw
    | succ j => simp at hu
  have HN := Lib.hid hnw
  clear hnw hlw
  have hb1 : n0 ≤ (w.alloc (.cells #[.int .u32 ((t : Int) % 4294967296)] 94)).heap.size := by simp; omega
  have hb2 : (ws.length + 1) * 4 ≤ 140737488355328 := by omega
  have hb3 : ws.length + 1 ≤ maxLen := by unfold maxLen; omega
  have H3 := Lib.hid hb3
  clear hb3
  have H2 := Lib.hid hb2
  clear hb2
  have HO := Lib.hid hown
  clear hown
  have HS := Lib.hid hso
  clear hso
  have HC := Lib.hid hsc
  clear hsc
  have hob : ∀ k, (Value.slice A ws.length c).ownBlock = some k → n0 ≤ k := fun k hk => (HO.out.lt k hk).1
  have HB := Lib.hid hob
  clear hob
  go_enter Tryz.func254, Tryz.ntmps254
  go_wp2_with (at_builtin; refine wpList_append_own _ rfl (.tmp 7) (.tmp 10) 40 rfl n0 94 i0 (.int .u32 0) 1 4 Tryz.under40 hi hz0 hz1 hz2 rfl (by decide) _ _ _ rfl (HO.out.alloc _) ⟨w.heap.size, 0, none⟩ 1 1 [.int .u32 ((t : Int) % 4294967296)] rfl rfl HN.out ?c2 H3.out H2.out hb1 ?_)
  case c2 => simp [Value.oneCell']
  intro v' w1 hown' hgrow _
  obtain ⟨g, cap, rfl⟩ := ownsRow_succ hown'
  have hso1 : w1.heap[bo]? = some (.cells #[.slice A ws.length c] 40 (0, 0)) := (hgrow.block bo (by simp; omega) (fun e => by have := HB.out bo e.symm; omega)).trans ((Below.heap_alloc _ _ _ (by omega)).trans HS.out)
  have hsc1 : w1.heap[bc]? = some (.cells #[.int .u64 (cy : Int)] 199 (0, 0)) := (hgrow.block bc (by simp; omega) (fun e => by have := HB.out bc e.symm; omega)).trans ((Below.heap_alloc _ _ _ (by omega)).trans HC.out)
  have cO1 := cell_of_row w1 bo 0 _ 40 (0, 0) hso1
  have cC1 := cell_of_row w1 bc 0 _ 199 (0, 0) hsc1
  simp only [List.getElem?_toArray, List.getElem?_cons_zero] at cO1 cC1
  have fO1 : w1.frozen? ⟨bo, 0, none⟩ = false := by simp [World.frozen?, hso1]
  have fC1 : w1.frozen? ⟨bc, 0, none⟩ = false := by simp [World.frozen?, hsc1]
  have H1 := Lib.hid hso1
  have H4 := Lib.hid hsc1
  clear hso1 hsc1
  have hne' : bc ≠ bo := fun e => hne e.symm
  go_wp2
  go_end0
  have hx1 : Boxed (w1.setCell ⟨bo, 0, none⟩ (.slice (some ⟨g, 0, none⟩) (ws.length + 1) cap)) bo 40 (.slice (some ⟨g, 0, none⟩) (ws.length + 1) cap) := Boxed.set _ H1.out
  have hx2 : Boxed (w1.setCell ⟨bo, 0, none⟩ (.slice (some ⟨g, 0, none⟩) (ws.length + 1) cap)) bc 199 (.int .u64 (cy : Int)) := (Below.heap_setCell _ _ _ _ hne').trans H4.out
  have hso2 := ownsRow_setCell_below (ownsRow_setCell_below hown' (a := ⟨bo, 0, none⟩) hbo (.slice (some ⟨g, 0, none⟩) (ws.length + 1) cap)) (a := ⟨bc, 0, none⟩) hbc (.int .u64 ((t : Int) / 4294967296))
  have hsz1 : w.heap.size ≤ w1.heap.size := by have := hgrow.size; simp at this; omega
  have hold : ∀ k, k < w.heap.size → k < n0 → w1.heap[k]? = w.heap[k]? := fun k hk hkn => (hgrow.block k (by simp; omega) (fun e => by have := HB.out k e.symm; omega)).trans (Below.heap_alloc _ _ _ hk)
  refine ⟨rfl, ⟨⟨_, (Below.heap_setCell _ _ _ _ hne).trans hx1, ?_⟩, ?_, ?_⟩, ?_, ?_, ?_, ?_, ?_⟩
  · rw [List.length_append, List.length_singleton, show u32s (ws ++ [t % 4294967296]) = u32s ws ++ [.int .u32 ((t : Int) % 4294967296)] by simp [u32s]]
    exact hso2
  · exact Boxed.set _ hx2
  · rw [okw_append]; exact ⟨hok, by intro x hx; simp at hx; omega⟩
  · simp [World.setCell]; omega
  · intro k hk hk1 hk2 hkn
    rw [Below.heap_setCell _ _ _ _ hk2, Below.heap_setCell _ _ _ _ hk1]
    exact hold k hk hkn
  · refine (((((Below.refl nb w).alloc (by omega) _).grown hgrow (by simp; omega) (fun k hk => by have := HB.out k hk; omega)).setCell h1 _).setCell h2 _)
  · refine ((((KeepsOthers.alloc w _).trans (KeepsOthers.of_grownBy hgrow (fun j o hj ho => ?_))).trans (KeepsOthers.setCell _ _ _)).trans (KeepsOthers.setCell _ _ _))
    rcases (HO.out.alloc (.cells #[.int .u32 ((t : Int) % 4294967296)] 94)).2 with ⟨e, _⟩ | ⟨g', cap', cur, e, _, hgg, _⟩
    · rw [e] at hj; simp [Value.ownBlock] at hj
    · rw [e] at hj; simp [Value.ownBlock] at hj; subst hj; rw [hgg] at ho; cases ho; rfl
  · intro k cs T fr hk hT hk1 hk2
    have hlt := (Array.getElem?_eq_some_iff.1 hk).1
    rw [Below.heap_setCell _ _ _ _ hk2, Below.heap_setCell _ _ _ _ hk1]
    refine (hgrow.block k (by simp; omega) (fun e => ?_)).trans ((Below.heap_alloc _ _ _ hlt).trans hk)
    rcases HO.out.2 with ⟨e2, _⟩ | ⟨g', cap', cur, e2, _, hgg, _⟩
    · rw [e2] at e; simp [Value.ownBlock] at e
    · rw [e2] at e; simp [Value.ownBlock] at e; subst e; rw [hgg] at hk; cases hk; exact hT rfl
theorem own_wd {w : World} {n0 n : Nat} {v : Value} {ws : List Nat} (h : w.ownsRow n0 94 1 v n (u32s ws)) (hok : okw ws) : Wd (fun k => n0 ≤ k) w v ws := by
  have hn : ws.length = n := by have := h.1; simpa [u32s] using this
  rcases h.2 with ⟨rfl, h0⟩ | ⟨g, cap, cur, rfl, hg, hh, h1, h2, h3, h4⟩
  · have : ws = [] := List.eq_nil_of_length_eq_zero (by omega)
    subst this; exact Wd.nil
  · refine ⟨_, cap, by rw [hn], by omega, h2, hok, fun _ => ⟨g, 0, rfl, hg, fun j hj => ?_⟩⟩
    have hc := h.cells (g := g) rfl j _ (u32s_get hj)
    rw [show ((⟨g, 0, none⟩ : Addr).add j) = ⟨g, j, none⟩ by unfold Addr.add; split <;> simp_all] at hc
    rw [Nat.zero_add]; exact hc
set_option maxHeartbeats 1000000 in
/-- All words: the carry behind them. -/
theorem all_c {n0 nb : Nat} {w : World} {bo bc : Nat} {ws : List Nat} {cy : Nat} (h : CarS n0 w bo bc ws cy) (hcy : cy < 4294967296) (hn0 : n0 ≤ w.heap.size) (hl : ws.length ≤ 10000000000) (hnb : nb ≤ n0) :
    Calls Tryz.prog 255 #[.pointer (some ⟨bo, 0, none⟩), .pointer (some ⟨bc, 0, none⟩)] w fun e w' =>
      ∃ A l c, e = .returned (.slice A l c) ∧ Wd (fun k => n0 ≤ k) w' (.slice A l c) (ws ++ [cy]) ∧ Below nb w w' ∧ KeepsOthers w w' := by
  obtain ⟨⟨sv, hso, hown⟩, hsc, hok⟩ := h
  obtain ⟨A, c, rfl⟩ : ∃ A c, sv = .slice A ws.length c := by
    rcases hown.2 with ⟨rfl, h0⟩ | ⟨g, cap, cur, rfl, _⟩
    · exact ⟨none, 0, by rw [h0]⟩
    · exact ⟨_, _, rfl⟩
  have cO := cell_of_row w bo 0 _ 40 (0, 0) hso
  have cC := cell_of_row w bc 0 _ 199 (0, 0) hsc
  simp only [List.getElem?_toArray, List.getElem?_cons_zero] at cO cC
  obtain ⟨i0, hi, hz0, hz1, hz2⟩ := info_parts' Tryz.info94
  have hco := World.new_ne w _ cO
  have hcc := World.new_ne w _ cC
  have hcy0 : (cy : Int) < 4294967296 := by omega
  have hnw : ∀ j u, [Value.int .u32 (cy : Int)][j]? = some u → (w.alloc (.cells #[.int .u32 (cy : Int)] 94)).cell? ((⟨w.heap.size, 0, none⟩ : Addr).add j) = some u := by
    intro j u hu
    cases j with
    | zero =>
      simp at hu; subst hu
      rw [show ((⟨w.heap.size, 0, none⟩ : Addr).add 0) = ⟨w.heap.size, 0, none⟩ by unfold Addr.add; split <;> simp_all]
      rw [cell_of_row _ _ _ _ _ _ (heap_alloc_new w _)]; rfl
    | succ j => simp at hu
  have HN := Lib.hid hnw
  clear hnw
  have hb1 : n0 ≤ (w.alloc (.cells #[.int .u32 (cy : Int)] 94)).heap.size := by simp; omega
  have H2 : Hid ((ws.length + 1) * 4 ≤ 140737488355328) := by unfold Hid; omega
  have H3 : Hid (ws.length + 1 ≤ maxLen) := by unfold Hid maxLen; omega
  have HO := Lib.hid hown
  clear hown hso hsc
  have hob : ∀ k, (Value.slice A ws.length c).ownBlock = some k → n0 ≤ k := fun k hk => (HO.out.lt k hk).1
  have HB := Lib.hid hob
  clear hob
  go_enter Tryz.func255, Tryz.ntmps255
  go_wp2_with (at_builtin; refine wpList_append_own _ rfl (.tmp 3) (.tmp 6) 40 rfl n0 94 i0 (.int .u32 0) 1 4 Tryz.under40 hi hz0 hz1 hz2 rfl (by decide) _ _ _ rfl (HO.out.alloc _) ⟨w.heap.size, 0, none⟩ 1 1 [.int .u32 (cy : Int)] rfl rfl HN.out ?c2 H3.out H2.out hb1 ?_)
  case c2 => simp [Value.oneCell']
  intro v' w1 hown' hgrow _
  obtain ⟨g, cap, rfl⟩ := ownsRow_succ hown'
  go_wp2
  go_ret
  refine ⟨_, _, _, rfl, ?_, ?_⟩
  · refine own_wd (n := ws.length + 1) ?_ (by rw [okw_append]; exact ⟨hok, by intro x hx; simp at hx; omega⟩)
    rw [show u32s (ws ++ [cy]) = u32s ws ++ [.int .u32 (cy : Int)] by simp [u32s]]
    exact hown'
  · refine ⟨((Below.refl nb w).alloc (by omega) _).grown hgrow (by simp; omega) (fun k hk => by have := HB.out k hk; omega), (KeepsOthers.alloc w _).trans (KeepsOthers.of_grownBy hgrow (fun j o hj ho => ?_))⟩
    rcases (HO.out.alloc (.cells #[.int .u32 (cy : Int)] 94)).2 with ⟨e, _⟩ | ⟨g', cap', cur, e, _, hgg, _⟩
    · rw [e] at hj; simp [Value.ownBlock] at hj
    · rw [e] at hj; simp [Value.ownBlock] at hj; subst hj; rw [hgg] at ho; cases ho; rfl
end Go.Proofs.YtdkfdamihnieiaaGreat
end
