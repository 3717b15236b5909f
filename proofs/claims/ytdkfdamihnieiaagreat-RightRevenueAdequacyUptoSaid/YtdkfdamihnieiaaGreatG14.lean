/- Contracts of package vec, part 6: Add, Sub, AddScaled, Scale. -/
import Derived.Test.YtdkfdamihnieiaaGreatG13
import Derived.Test.YtdkfdamihnieiaaGreatG10
set_option linter.unusedSimpArgs false
set_option linter.unusedVariables false
section
open Go Go.RowKit Go.Shelf
namespace Go.Proofs.YtdkfdamihnieiaaGreat
open Go.Proofs
theorem Vq.rq {n0 w v qs B} (h : Vq n0 cq w v qs) (hB : ∀ q ∈ qs, qB q B) : Vq n0 (rq B) w v qs := h.imp fun v q hq he => cq_rq he (hB q hq)
theorem Vq.rqm {n0 w v qs B B'} (h : Vq n0 (YtdkfdamihnieiaaGreat.rq B) w v qs) (hB : B ≤ B') : Vq n0 (YtdkfdamihnieiaaGreat.rq B') w v qs := h.imp fun v q _ he => isQ.mono he (fun _ _ _ => trivial) hB
/-- Two vectors, element by element. -/
def zipq (f : Rat → Rat → Rat) (a b : List Rat) : List Rat := (List.range (max a.length b.length)).map fun k => f (a.getD k 0) (b.getD k 0)
set_option maxHeartbeats 1000000 in
theorem vadd_c {n0 B : Nat} {w : World} {va vb : Value} {qa qb : List Rat} (ha : Vq n0 (rq B) w va qa) (hb : Vq n0 (rq B) w vb qb) (hB0 : 0 < B) (hB : B ≤ 400000000) (hla : qa.length ≤ 1000000000) (hlb : qb.length ≤ 1000000000) :
    Calls Tryz.prog 112 #[va, vb] w (RetV w n0 (zipq (· + ·) qa qb)) := by
  have hw := with_c (rq_ratl hB0) ha hb 29 #[] (fun k => qa.getD k 0 + qb.getD k 0) (enters_of Tryz.func29 (by kernel_rfl) rfl) (fun W vx vy k _ h1 h2 => add_q h1 h2 hB0 hB0 hB hB) hla hlb
  have Hw := Lib.hid hw
  clear hw
  go_enter Tryz.func112, Tryz.ntmps112
  go_wp2_with (go_at_call 94; (with_reducible refine Calls.mono Hw.out ?_); rintro e w1 ⟨A, l, c, rfl, hb1, hv, hf⟩)
  go_ret
  exact ⟨A, l, c, rfl, hb1, hv, hf⟩
set_option maxHeartbeats 1000000 in
theorem vsub_c {n0 B : Nat} {w : World} {va vb : Value} {qa qb : List Rat} (ha : Vq n0 (rq B) w va qa) (hb : Vq n0 (rq B) w vb qb) (hB0 : 0 < B) (hB : B ≤ 400000000) (hla : qa.length ≤ 1000000000) (hlb : qb.length ≤ 1000000000) :
    Calls Tryz.prog 202 #[va, vb] w (RetV w n0 (zipq (· - ·) qa qb)) := by
  have hw := with_c (rq_ratl hB0) ha hb 65 #[] (fun k => qa.getD k 0 - qb.getD k 0) (enters_of Tryz.func65 (by kernel_rfl) rfl) (fun W vx vy k _ h1 h2 => sub_q h1 h2 hB0 hB0 hB hB) hla hlb
  have Hw := Lib.hid hw
  clear hw
  go_enter Tryz.func202, Tryz.ntmps202
  go_wp2_with (go_at_call 94; (with_reducible refine Calls.mono Hw.out ?_); rintro e w1 ⟨A, l, c, rfl, hb1, hv, hf⟩)
  go_ret
  exact ⟨A, l, c, rfl, hb1, hv, hf⟩
end Go.Proofs.YtdkfdamihnieiaaGreat
end
section
/- Contracts of package vec, part 7: AddScaled, Scale. -/
open Go Go.RowKit
namespace Go.Proofs.YtdkfdamihnieiaaGreat
open Go.Proofs
set_option maxRecDepth 100000 in
set_option maxHeartbeats 2000000 in
theorem as1_c {ok0 ok1 ok2 w va vb n A l c m D l2 c2 kb k x y B} (hk : isQ ok0 w (.agg #[.bool n, .slice A l c, .bool m, .slice D l2 c2]) k B) (h1 : isQ ok1 w va x B) (h2 : isQ ok2 w vb y B)
    (c0 : w.cell? ⟨kb, 0, none⟩ = some (.bool n)) (c1 : w.cell? ⟨kb, 1, none⟩ = some (.slice A l c)) (c2' : w.cell? ⟨kb, 2, none⟩ = some (.bool m)) (c3 : w.cell? ⟨kb, 3, none⟩ = some (.slice D l2 c2)) (hB0 : 0 < B) (hB : B ≤ 100000000) :
    Calls Tryz.prog 95 #[va, vb, .pointer (some ⟨kb, 0, none⟩)] w (RetQ w (fresh w) (k * x + y)) := by
  obtain ⟨n1, A1, l1, c1, m1, D1, e1, g1, rfl⟩ := h1.shape
  obtain ⟨n2, A2, l2, c2, m2, D2, e2, g2, rfl⟩ := h2.shape
  obtain ⟨z0, z1, z2, z3, z4⟩ := z3 w.heap.size
  have hkb := World.block_lt_of_cell? w _ c0
  simp only at hkb
  have hk1 : kb < w.heap.size + 1 := by omega
  have hk2 : kb < w.heap.size + 1 + 1 := by omega
  have hk3 : kb < w.heap.size + 3 := by omega
  have Q0 := bdr (bal (o := (Obj.cells #[Value.bool false, .slice none 0 0, .bool false, .slice none 0 0] 44)) (bal (o := (Obj.cells #[Value.bool n2, .slice A2 l2 c2, .bool m2, .slice D2 e2 g2] 44)) (bal (o := (Obj.cells #[Value.bool n1, .slice A1 l1 c1, .bool m1, .slice D1 e1 g1] 44)) (b0 w))))
  go_enter Tryz.func95, Tryz.ntmps95
  go_wp2
  go_region_held3 (fun w' => ∀ b o, b < w.heap.size + 1 + 1 → w'.cell? ⟨b, o, none⟩ = (((w.alloc (Obj.cells #[Value.bool n1, .slice A1 l1 c1, .bool m1, .slice D1 e1 g1] 44)).alloc (Obj.cells #[Value.bool n2, .slice A2 l2 c2, .bool m2, .slice D2 e2 g2] 44)).alloc (Obj.cells #[Value.bool false, .slice none 0 0, .bool false, .slice none 0 0] 44)).cell? ⟨b, o, none⟩)
      (first
        | (with_reducible assumption)
        | (with_reducible exact keep_set4 (by assumption) (by omega) (by omega))
        | (with_reducible exact keep_set2 (by assumption) (by omega) (by omega))
        | (with_reducible exact keep_set1 (by assumption) (by omega) (by omega))
        | (with_reducible exact keep_of (by assumption) (by omega))
        | (with_reducible exact keep_dr (by assumption) (by omega))
        | (with_reducible exact keep_start)
        | (exact fun _ _ _ => rfl))
      (first
        | (go_at_call 48; (with_reducible refine Calls.mono (mul_q (hk.below Q0) (h1.below Q0) hB0 hB0 (by omega) (by omega)) ?_); rintro e w1 ⟨n3, A3, l3, c3, m3, D3, e3, g3, rfl, k1, r1⟩; have Q1 := bthen Q0 k1; have B1 := Bx.step ((Bx.refl (n := w.heap.size + 3) (((w.alloc (Obj.cells #[Value.bool n1, .slice A1 l1 c1, .bool m1, .slice D1 e1 g1] 44)).alloc (Obj.cells #[Value.bool n2, .slice A2 l2 c2, .bool m2, .slice D2 e2 g2] 44)).alloc (Obj.cells #[Value.bool false, .slice none 0 0, .bool false, .slice none 0 0] 44)) (by simp)).dr) k1; have j1 := B1.cell; have f1 := B1.frozen; have s1 := B1.s)
        | (go_at_call 29; (with_reducible refine Calls.mono (add_q (r1.q (qB_mul (hk.size hB0) (h1.size hB0))) (h2.below Q1) (by omega) hB0 (by omega) (by omega)) ?_); rintro e w2 ⟨n4, A4, l4, c4, m4, D4, e4, g4, rfl, k2, r2⟩; have Q2 := bthen Q1 k2; have B2 := Bx.step B1 k2; have j2 := B2.cell; have f2 := B2.frozen; have s2 := B2.s))
  go_wp2
  refine bodyPost_ret (v := .agg #[.bool n4, .slice A4 l4 c4, .bool m4, .slice D4 e4 g4]) ?_ rfl ?_
  · simp [results, Tryz.results95, go_sem, *]
  · exact RetQ.set4 Q2 r2 (by omega) (by have := B1.s; omega)
set_option maxRecDepth 100000 in
set_option maxHeartbeats 2000000 in
theorem addScaled_f {ok0 n0 B w vk va vb k qa qb} (hk : isQ ok0 w vk k B) (ha : Vq n0 (rq B) w va qa) (hb : Vq n0 (rq B) w vb qb) (hB0 : 0 < B) (hB : B ≤ 100000000) (hla : qa.length ≤ 1000000000) (hlb : qb.length ≤ 1000000000) :
    Calls Tryz.prog 33 #[vk, va, vb] w (RetVF w n0 (zipq (fun x y => k * x + y) qa qb)) := by
  obtain ⟨n1, A1, l1, c1, m1, D1, e1, g1, rfl⟩ := hk.shape
  have hb1 : Below w.heap.size w (w.alloc (Obj.cells #[Value.bool n1, .slice A1 l1 c1, .bool m1, .slice D1 e1 g1] 44)) := bal (b0 w)
  have hw := with_f (rq_ratl hB0) (ha.below (rq_stable B) hb1) (hb.below (rq_stable B) hb1) 95 #[.pointer (some ⟨w.heap.size, 0, none⟩)] (fun j => k * qa.getD j 0 + qb.getD j 0) (enters_of Tryz.func95 (by kernel_rfl) rfl)
    (fun W vx vy j hbw h1 h2 => by
      have cc := fun i => (hbw.cell (p := ⟨w.heap.size, i, none⟩) (by simp)).trans (World.cell?_alloc_new w _ 44 i)
      exact as1_c (hk.below (hb1.trans (hbw.mono (by simp)))) h1 h2 (cc 0) (cc 1) (cc 2) (cc 3) hB0 hB) hla hlb
  have Hw := Lib.hid hw
  clear hw
  go_enter Tryz.func33, Tryz.ntmps33
  go_wp2_with (go_at_call 94; (with_reducible refine Calls.mono Hw.out ?_); rintro e w1 ⟨A, l, c, rfl, hb2, hv, hf⟩)
  go_ret
  exact RetVF.lower hb1 ⟨A, l, c, rfl, hb2, hv, hf⟩
set_option maxHeartbeats 1000000 in
theorem scale_f {ok0 n0 B w vk va k qa} (hk : isQ ok0 w vk k B) (ha : Vq n0 (rq B) w va qa) (hB0 : 0 < B) (hB : B ≤ 100000000) (hla : qa.length ≤ 1000000000) :
    Calls Tryz.prog 53 #[vk, va] w (RetVF w n0 (qa.map fun x => k * x)) := by
  obtain ⟨n1, A1, l1, c1, m1, D1, e1, g1, rfl⟩ := hk.shape
  have hb1 : Below w.heap.size w (w.alloc (Obj.cells #[Value.bool n1, .slice A1 l1 c1, .bool m1, .slice D1 e1 g1] 44)) := bal (b0 w)
  have hw := addScaled_f (hk.below hb1) (ha.below (rq_stable B) hb1) (Vq.nil (n0 := n0) (E := rq B) (w := (w.alloc (Obj.cells #[Value.bool n1, .slice A1 l1 c1, .bool m1, .slice D1 e1 g1] 44))) (c := 0) (A := none) (by unfold maxLen; omega)) hB0 hB hla (by simp)
  rw [show zipq (fun x y => k * x + y) qa [] = qa.map fun x => k * x by
    unfold zipq
    simp only [List.length_nil, Nat.max_zero]
    refine List.ext_getElem (by simp) (fun j h3 h4 => ?_)
    have : j < qa.length := by simpa using h4
    simp [List.getD_eq_getElem?_getD, List.getElem?_eq_getElem this]; grind] at hw
  have Hw := Lib.hid hw
  clear hw
  go_enter Tryz.func53, Tryz.ntmps53
  go_wp2_with (go_at_call 33; (with_reducible refine Calls.mono Hw.out ?_); rintro e w1 ⟨A, l, c, rfl, hb2, hv, hf⟩)
  go_ret
  exact RetVF.lower hb1 ⟨A, l, c, rfl, hb2, hv, hf⟩
theorem addScaled_c {ok0 n0 B w vk va vb k qa qb} (hk : isQ ok0 w vk k B) (ha : Vq n0 (rq B) w va qa) (hb : Vq n0 (rq B) w vb qb) (hB0 : 0 < B) (hB : B ≤ 100000000) (hla : qa.length ≤ 1000000000) (hlb : qb.length ≤ 1000000000) :
    Calls Tryz.prog 33 #[vk, va, vb] w (RetV w n0 (zipq (fun x y => k * x + y) qa qb)) := (addScaled_f hk ha hb hB0 hB hla hlb).mono (fun _ _ h => h.v)
theorem scale_c {ok0 n0 B w vk va k qa} (hk : isQ ok0 w vk k B) (ha : Vq n0 (rq B) w va qa) (hB0 : 0 < B) (hB : B ≤ 100000000) (hla : qa.length ≤ 1000000000) :
    Calls Tryz.prog 53 #[vk, va] w (RetV w n0 (qa.map fun x => k * x)) := (scale_f hk ha hB0 hB hla).mono (fun _ _ h => h.v)
end Go.Proofs.YtdkfdamihnieiaaGreat
end
section
/- Contracts of package vec, part 8: Resize. -/
open Go Go.RowKit Go.Shelf
namespace Go.Proofs.YtdkfdamihnieiaaGreat
open Go.Proofs
theorem wpList_append_1 {P : Program} {w : World} {ops : Array Oper} {rest : List Oper} {o : Oper} {act : Act} {Q : Exit → Act → World → Prop} (hgd : o.guard = none) (s x : Operand) (t : TypeId)
    (hop : o.op = Op.call { callee := Callee.builtin Builtin.append, args := #[s, x], argTypes := #[t, t] })
    (base : Nat) (e : TypeId) (i : TypeInfo) (z : Value) (size bytes : Nat) (ht : P.underlying t = some (.slice e)) (hi : P.info? e = some i) (hz : i.zero = some z)
    (hsize : i.size = size) (hby : i.bytes = bytes) (hzs : z.cells.size = size) (hsz : 0 < size)
    (v : Value) (n : Nat) (xs : List Value) (hs : act.eval s = v) (hown : w.ownsRow base e size v n xs)
    (a : Addr) (m c : Nat) (news : List Value) (hx : act.eval x = .slice (some a) m c) (hl : news.length = m * size) (hnews : ∀ j u, news[j]? = some u → w.cell? (a.add j) = some u) (h1 : ∀ u ∈ news, u.oneCell' = true)
    (h63 : n + m ≤ maxLen) (hbytes : (n + m) * bytes ≤ 140737488355328) (hbase : base ≤ w.heap.size)
    (hK : ∀ A' c' w', w'.ownsRow base e size (.slice A' (n + m) c') (n + m) (xs ++ news) → w.grownBy w' v.ownBlock → (∀ g, (Value.slice A' (n + m) c').ownBlock = some g → v.ownBlock = some g ∨ w.heap.size ≤ g) → wpList P ops Q rest (act.put o.dst (.slice A' (n + m) c')) w') :
    wpList P ops Q (o :: rest) act w := by
  refine wpList_plain hgd fun K hK' => ?_
  obtain ⟨v', w', hrun, r1, r2, r3⟩ := run_append_1 (P := P) (w := w) base t o.type e i z size bytes ht hi hz hsize hby hzs hsz v n xs hown a m c news hl hnews h1 h63 hbytes hbase
  obtain ⟨A', c', rfl⟩ := own_slice r1
  unfold Oper.wp
  simp [execOp, hop, resolve, invoke, builtin, hs, hx, hrun, Result.andThen]
  exact hK' _ _ (hK A' c' w' r1 r2 r3)
/-- A row in the making. -/
structure RowI (w : World) (W : World) (sv : Value) (qs : List Rat) (l : List Qx) : Prop where
  own : W.ownsRow w.heap.size 44 4 sv qs.length (qcs l)
  len : l.length = qs.length
  el : ∀ j (hj : j < l.length), isQc (okr sv) W (l[j]).v (qs.getD j 0)
  below : Below w.heap.size w W
theorem RowI.start (w : World) : RowI w w (.slice none 0 0) [] [] := ⟨World.ownsRow_nil _ _ _ _, rfl, fun j hj => by simp at hj, b0 w⟩
theorem RowI.later {w W W' sv qs l} (H : RowI w W sv qs l) (hb : Below W.heap.size W W') : RowI w W' sv qs l := ⟨row_below H.own hb, H.len, fun j hj => isQc.below (H.el j hj) hb, bthen H.below hb⟩
theorem getD_snoc (l : List Rat) (q : Rat) (j : Nat) : (j < l.length → (l ++ [q]).getD j 0 = l.getD j 0) ∧ (j = l.length → (l ++ [q]).getD j 0 = q) := by
  constructor
  · intro h; simp [List.getElem?_append_left, h]
  · rintro rfl; simp
/-- One more. -/
theorem RowI.step {w W W1 sv qs l} (H : RowI w W sv qs l) {v' : Value} {y : Qx} {q : Rat} (hy : isQc (okr sv) W y.v q) (hown : W1.ownsRow w.heap.size 44 4 v' (qs.length + 1) (qcs l ++ y.cs)) (hg : W.grownBy W1 sv.ownBlock) (hb : ∀ g, v'.ownBlock = some g → sv.ownBlock = some g ∨ W.heap.size ≤ g) : RowI w W1 v' (qs ++ [q]) (l ++ [y]) := by
  refine ⟨?_, by simp [H.len], fun j hj => ?_, H.below.grown hg H.below.size (fun r hr => (H.own.lt r hr).1)⟩
  · rw [qcs_append, qcs_one, List.length_append, List.length_singleton]; exact hown
  · by_cases hjl : j < l.length
    · rw [List.getElem_append_left hjl, (getD_snoc qs q j).1 (by have := H.len; omega)]
      exact (H.el j hjl).appended hg hb
    · have hje : j = l.length := by simp at hj; omega
      subst hje
      rw [List.getElem_append_right (Nat.le_refl _), (getD_snoc qs q _).2 H.len]
      simp only [Nat.sub_self, List.getElem_cons_zero]
      exact hy.appended hg hb
theorem RowI.ret {w W n0 A l' c qs l} (H : RowI w W (.slice A l' c) qs l) : RetV w n0 qs (.returned (.slice A l' c)) W := by
  have := own_vq (n0 := n0) (E := cq) H.own H.len (fun j hj => (H.el j hj).any)
  exact ⟨A, l', c, rfl, H.below, this.1, fun b o e => this.2 _ _ _ rfl b o e⟩
end Go.Proofs.YtdkfdamihnieiaaGreat
end
section
/- Contracts of package vec, part 9: Resize. -/
open Go Go.RowKit Go.Shelf
namespace Go.Proofs.YtdkfdamihnieiaaGreat
open Go.Proofs
set_option maxRecDepth 100000 in
set_option maxHeartbeats 2000000 in
theorem resize_c {n0 B w v qs} (h : Vq n0 (rq B) w v qs) (hB0 : 0 < B) (hB : B ≤ 400000000) (m : Int) (h1 : -9223372036854775808 ≤ m) (h2 : m ≤ 9223372036854775807) :
    Calls Tryz.prog 41 #[v, .int .i64 m] w (RetV w n0 ((List.range (min m.toNat 65536)).map fun k => qs.getD k 0)) := by
  obtain ⟨f, hv⟩ := h.view (rq_ratl hB0)
  obtain ⟨A, l, c, rfl⟩ := h.shape
  obtain ⟨i0, hi, hz0, hz1, hz2⟩ := info_parts' Tryz.info44
  obtain ⟨N, hN⟩ : ∃ N : Nat, N = min m.toNat 65536 := ⟨_, rfl⟩
  rw [← hN]
  have hN2 : N ≤ 65536 := by omega
  rcases Int.lt_or_le m 0 with hm | hm
  · obtain rfl : N = 0 := by omega
    clear hN h1 h2
    go_enter Tryz.func41, Tryz.ntmps41
    go_wp2
    go_loopw [4, 9] (fun sv iv wr => iv = .int .i64 0 ∧ sv = .slice none 0 0 ∧ wr = w) (fun _ iv _ => 0)
    case atStart => exact ⟨rfl, rfl, rfl⟩
    case round =>
      obtain ⟨rfl, rfl, rfl⟩ := hrel
      go_wp2
      go_ret
      exact (RowI.start wr).ret
  · obtain ⟨M, rfl⟩ : ∃ M : Nat, m = M := ⟨m.toNat, by omega⟩
    rcases Nat.lt_or_ge 65536 M with hM | hM
    · have HN := Lib.hid (show N = 65536 by omega)
      have hMi : (65536 : Int) < (M : Int) := by omega
      clear hN hm h1 h2
      go_enter Tryz.func41, Tryz.ntmps41
      go_wp2
      go_loopw [4, 9] (fun sv iv wr => ∃ (k : Nat) (A' : Option Addr) (c' : Nat) (ll : List Qx), k ≤ N ∧ iv = .int .i64 (k : Int) ∧ sv = .slice A' k c' ∧ RowI w wr (.slice A' k c') ((List.range k).map fun j => qs.getD j 0) ll) (fun _ iv _ => N - (intOf iv).toNat)
      case atStart => exact ⟨0, none, 0, [], by omega, rfl, rfl, RowI.start w⟩
      case round =>
        obtain ⟨k, A', c', ll, hk, rfl, rfl, HR⟩ := hrel
        by_cases hlt : k < N
        · have hq : (k : Int) < 65536 := by have := HN.out; omega
          have hvw := hv.below (rq_stable B) HR.below
          have at1 := at_x (rq_ratl hB0) hvw k
          have el1 := hvw.el k
          obtain ⟨xn, p, xm, q, hX⟩ := Qx.shape ((rq_ratl hB0).slices el1)
          rw [hX] at at1 el1
          simp only [Qx.v, Qx.o] at at1 el1
          have At := Lib.hid at1
          have El := Lib.hid (show isQ (fun _ => True) wr _ (qs.getD k 0) B from el1)
          have HRR := Lib.hid HR
          have Hhv := Lib.hid hv
          clear at1 el1 hvw hX HR hv h
          go_wp2_with (first
            | (go_at_call 111; (with_reducible refine Calls.mono At.out ?_); rintro e w1 ⟨rfl, rfl⟩)
            | (go_at_call 90; (with_reducible refine Calls.mono (canon_q (isQ.al El.out) hB0 hB) ?_); rintro e w2 ⟨n3, A3, l3, c3, m3, D3, e3, g3, rfl, hb2, hr2⟩; have hrl := HRR.out.later ((bal (b0 wr)).trans (hb2.mono (by simp))); have hrm := hrl.later (bal (b0 w2) (o := .cells #[.bool n3, .slice A3 l3 c3, .bool m3, .slice D3 e3 g3] 44)); have HM := Lib.hid hrm; have HRL := Lib.hid hrl; clear hrl hrm)
            | (at_builtin; refine wpList_append_1 rfl (.tmp 12) (.tmp 17) 26 rfl w.heap.size 44 i0 (.agg #[.bool false, .slice none 0 0, .bool false, .slice none 0 0]) 4 64 Tryz.under26 hi hz0 hz1 hz2 rfl (by decide) _ _ _ rfl HM.out.own ⟨w2.heap.size, 0, none⟩ 1 1 [.bool n3, .slice A3 l3 c3, .bool m3, .slice D3 e3 g3] rfl rfl ?c1 ?c2 ?c3 ?c4 ?c5 ?_))
          case c1 =>
            intro j u hu
            rw [addr_add0, Nat.zero_add, World.cell?_alloc_new]; simpa using hu
          case c2 => exact Qx.one ⟨n3, .slice A3 l3 c3, m3, .slice D3 e3 g3⟩ ⟨_, _, _, rfl⟩ ⟨_, _, _, rfl⟩
          case c3 => rw [List.length_map, List.length_range]; unfold maxLen; omega
          case c4 => rw [List.length_map, List.length_range]; omega
          case c5 => exact HM.out.below.size
          intro A2 cc w3 hown' hgrow hblk
          have hst := HM.out.step (y := ⟨n3, .slice A3 l3 c3, m3, .slice D3 e3 g3⟩) (q := qs.getD k 0) (isQc.al (hr2.mono (fun b _ hb => fun e => by
            have h9 := (HRR.out.own.lt b e).2
            simp [fresh] at hb; omega))) (v' := .slice A2 (k + 1) cc) (by rw [List.length_map, List.length_range]; exact hown') hgrow (fun g hg => (hblk g hg).imp_right (fun h => by simpa using h))
          have HST := Lib.hid hst
          clear hst hown' hgrow hblk
          go_wp2
          refine ⟨⟨k + 1, A2, cc, ll ++ [⟨n3, .slice A3 l3 c3, m3, .slice D3 e3 g3⟩], by omega, val_int (by omega), rfl, ?_⟩, by simp [intOf]; omega⟩
          rw [List.range_succ, List.map_append]
          exact HST.out
        · obtain rfl : k = N := by omega
          have hq : ¬ (k : Int) < 65536 := by have := HN.out; omega
          have hq2 : decide ((k : Int) < 65536) = false := by simpa using hq
          go_wp2
          go_ret
          exact HR.ret
    · obtain rfl : N = M := by omega
      clear hN hm h1 h2
      go_enter Tryz.func41, Tryz.ntmps41
      go_wp2
      go_loopw [4, 9] (fun sv iv wr => ∃ (k : Nat) (A' : Option Addr) (c' : Nat) (ll : List Qx), k ≤ N ∧ iv = .int .i64 (k : Int) ∧ sv = .slice A' k c' ∧ RowI w wr (.slice A' k c') ((List.range k).map fun j => qs.getD j 0) ll) (fun _ iv _ => N - (intOf iv).toNat)
      case atStart => exact ⟨0, none, 0, [], by omega, rfl, rfl, RowI.start w⟩
      case round =>
        obtain ⟨k, A', c', ll, hk, rfl, rfl, HR⟩ := hrel
        by_cases hlt : k < N
        · have hvw := hv.below (rq_stable B) HR.below
          have at1 := at_x (rq_ratl hB0) hvw k
          have el1 := hvw.el k
          obtain ⟨xn, p, xm, q, hX⟩ := Qx.shape ((rq_ratl hB0).slices el1)
          rw [hX] at at1 el1
          simp only [Qx.v, Qx.o] at at1 el1
          have At := Lib.hid at1
          have El := Lib.hid (show isQ (fun _ => True) wr _ (qs.getD k 0) B from el1)
          have HRR := Lib.hid HR
          have Hhv := Lib.hid hv
          clear at1 el1 hvw hX HR hv h
          go_wp2_with (first
            | (go_at_call 111; (with_reducible refine Calls.mono At.out ?_); rintro e w1 ⟨rfl, rfl⟩)
            | (go_at_call 90; (with_reducible refine Calls.mono (canon_q (isQ.al El.out) hB0 hB) ?_); rintro e w2 ⟨n3, A3, l3, c3, m3, D3, e3, g3, rfl, hb2, hr2⟩; have hrl := HRR.out.later ((bal (b0 wr)).trans (hb2.mono (by simp))); have hrm := hrl.later (bal (b0 w2) (o := .cells #[.bool n3, .slice A3 l3 c3, .bool m3, .slice D3 e3 g3] 44)); have HM := Lib.hid hrm; have HRL := Lib.hid hrl; clear hrl hrm)
            | (at_builtin; refine wpList_append_1 rfl (.tmp 12) (.tmp 17) 26 rfl w.heap.size 44 i0 (.agg #[.bool false, .slice none 0 0, .bool false, .slice none 0 0]) 4 64 Tryz.under26 hi hz0 hz1 hz2 rfl (by decide) _ _ _ rfl HM.out.own ⟨w2.heap.size, 0, none⟩ 1 1 [.bool n3, .slice A3 l3 c3, .bool m3, .slice D3 e3 g3] rfl rfl ?c1 ?c2 ?c3 ?c4 ?c5 ?_))
          case c1 =>
            intro j u hu
            rw [addr_add0, Nat.zero_add, World.cell?_alloc_new]; simpa using hu
          case c2 => exact Qx.one ⟨n3, .slice A3 l3 c3, m3, .slice D3 e3 g3⟩ ⟨_, _, _, rfl⟩ ⟨_, _, _, rfl⟩
          case c3 => rw [List.length_map, List.length_range]; unfold maxLen; omega
          case c4 => rw [List.length_map, List.length_range]; omega
          case c5 => exact HM.out.below.size
          intro A2 cc w3 hown' hgrow hblk
          have hst := HM.out.step (y := ⟨n3, .slice A3 l3 c3, m3, .slice D3 e3 g3⟩) (q := qs.getD k 0) (isQc.al (hr2.mono (fun b _ hb => fun e => by
            have h9 := (HRR.out.own.lt b e).2
            simp [fresh] at hb; omega))) (v' := .slice A2 (k + 1) cc) (by rw [List.length_map, List.length_range]; exact hown') hgrow (fun g hg => (hblk g hg).imp_right (fun h => by simpa using h))
          have HST := Lib.hid hst
          clear hst hown' hgrow hblk
          go_wp2
          refine ⟨⟨k + 1, A2, cc, ll ++ [⟨n3, .slice A3 l3 c3, m3, .slice D3 e3 g3⟩], by omega, val_int (by omega), rfl, ?_⟩, by simp [intOf]; omega⟩
          rw [List.range_succ, List.map_append]
          exact HST.out
        · obtain rfl : k = N := by omega
          go_wp2
          go_ret
          exact HR.ret
end Go.Proofs.YtdkfdamihnieiaaGreat
end
section
/- Contracts of package vec, part 10: make. -/
open Go Go.RowKit Go.Shelf
namespace Go.Proofs.YtdkfdamihnieiaaGreat
open Go.Proofs
theorem madeCells_q (n : Nat) : madeCells Qx.zero.cs.toArray (n * 4) = (qcs (List.replicate n Qx.zero)).toArray := by
  apply Array.ext_getElem?
  intro k
  by_cases hk : k < n * 4
  · have e : k = (k / 4) * 4 + k % 4 := by omega
    have h1 : k / 4 < (List.replicate n Qx.zero).length := by simp; omega
    have h2 := qcs_get (List.replicate n Qx.zero) (k / 4) (k % 4) h1 (by omega)
    rw [← e] at h2
    simp only [List.getElem?_toArray, h2, List.getElem_replicate]
    simp [madeCells, hk, Qx.zero, Qx.cs]
    have h4 : k % 4 < 4 := by omega
    rw [List.getElem?_eq_getElem (show k % 4 < [Value.bool false, Value.slice none 0 0, Value.bool false, Value.slice none 0 0].length from h4)]
    rfl
  · have h2 : (qcs (List.replicate n Qx.zero)).length ≤ k := by rw [qcs_length]; simp; omega
    simp only [List.getElem?_toArray, List.getElem?_eq_none h2]
    simp [madeCells]; omega
/-- make([]Q, n). -/
theorem make_q (w : World) (n : Int) (h0 : 0 ≤ n) (h : n ≤ 1000000000) : (Instr.makeSlice 26 (.int .i64 n) (.int .i64 n)).run Tryz.prog w =
    .ok (.slice (some ⟨w.heap.size, 0, none⟩) n.toNat n.toNat) (w.alloc (.cells (qcs (List.replicate n.toNat Qx.zero)).toArray 44)) := by
  obtain ⟨i, hi, hz, h1, h2⟩ := info_parts' Tryz.info44
  rw [run_make (P := Tryz.prog) w 26 44 i (.agg #[.bool false, .slice none 0 0, .bool false, .slice none 0 0]) Tryz.under26 hi hz .i64 .i64 n n h0 (Int.le_refl _) (by rw [h2]; omega) (by omega)]
  rw [h1, ← madeCells_q]
  rfl
end Go.Proofs.YtdkfdamihnieiaaGreat
end
section
/- Contracts of package vec, part 11: Unit. -/
open Go Go.RowKit Go.Shelf
namespace Go.Proofs.YtdkfdamihnieiaaGreat
open Go.Proofs
/-- A whole block of rationals is a vector. -/
theorem Blk.vq {w : World} {b n0 c : Nat} {l : List Qx} {qs : List Rat} {E : Elt} (h : Blk w b 44 (qcs l)) (hl : l.length = qs.length) (hc : l.length ≤ c) (hm : c ≤ maxLen) (hx : ∀ j (hj : j < l.length), E w (l[j]).v (qs.getD j 0)) : Vq n0 E w (.slice (some ⟨b, 0, none⟩) l.length c) qs := by
  refine ⟨some ⟨b, 0, none⟩, c, by rw [hl], by omega, hm, fun _ => ⟨b, 0, rfl, .inr ⟨_, _, h⟩, fun j hj => ⟨l[j]'(by omega), hx j (by omega), fun i hi => ?_⟩⟩⟩
  rw [Nat.zero_add, h.cell, qcs_get l j i (by omega) hi]
theorem qcs_set (l : List Qx) (k : Nat) (y : Qx) (hk : k < l.length) : ((((qcs l).set (k * 4) (.bool y.n)).set (k * 4 + 1) y.s).set (k * 4 + 2) (.bool y.m)).set (k * 4 + 3) y.t = qcs (l.set k y) := by
  induction l generalizing k with
  | nil => simp at hk
  | cons x r ih =>
    cases k with
    | zero => simp [qcs, Qx.cs]
    | succ k =>
      have := ih k (by simpa using hk)
      simp only [qcs, List.flatMap_cons, List.set_cons_succ] at *
      rw [← this]
      simp [Qx.cs, Nat.add_mul, Nat.add_right_comm _ 4]
end Go.Proofs.YtdkfdamihnieiaaGreat
end
section
/- A made row of rationals, under stores. -/
open Go Go.RowKit Go.Shelf
namespace Go.Proofs.YtdkfdamihnieiaaGreat
open Go.Proofs
/-- The four stores of a rational. -/
def st4 (W : World) (b o : Nat) (y : Qx) : World := (((W.setCell ⟨b, o, none⟩ (.bool y.n)).setCell ⟨b, o + 1, none⟩ y.s).setCell ⟨b, o + 2, none⟩ (.bool y.m)).setCell ⟨b, o + 3, none⟩ y.t
theorem st4_below {w W : World} (h : Below w.heap.size w W) {b o : Nat} {y : Qx} (hb : w.heap.size ≤ b) : Below w.heap.size w (st4 W b o y) := bset (bset (bset (bset h hb) hb) hb) hb
theorem st4_size (W : World) (b o : Nat) (y : Qx) : (st4 W b o y).heap.size = W.heap.size := by simp [st4, World.setCell]
theorem st4_blk {W : World} {b : Nat} {l : List Qx} {T : TypeId} (h : Blk W b T (qcs l)) {k : Nat} (hk : k < l.length) (y : Qx) : Blk (st4 W b (k * 4) y) b T (qcs (l.set k y)) := by
  rw [← qcs_set l k y hk]
  exact (((h.set _ _).set _ _).set _ _).set _ _
theorem st4_blkNe {W : World} {b b' o : Nat} {cs : List Value} {T : TypeId} {y : Qx} (h : Blk W b T cs) (hne : b' ≠ b) : Blk (st4 W b' o y) b T cs := (((h.setNe _ hne).setNe _ hne).setNe _ hne).setNe _ hne
theorem st4_el {E : Elt} (hE : Stable E) {W : World} {b : Nat} {l : List Qx} {T : TypeId} (h : Blk W b T (qcs l)) {k : Nat} (hk : k < l.length) (hs : (∃ A l' c, (l[k]).s = .slice A l' c) ∧ (∃ A l' c, (l[k]).t = .slice A l' c)) {y : Qx} {v : Value} {q : Rat} (hv : E W v q) : E (st4 W b (k * 4) y) v q := by
  have c := fun i (hi : i < 4) => (h.cell (k * 4 + i)).trans (qcs_get l k i hk hi)
  obtain ⟨⟨A, l1, c1, e1⟩, A2, l2, c2, e2⟩ := hs
  have c0 := c 0 (by omega)
  have c1' := c 1 (by omega)
  have c2' := c 2 (by omega)
  have c3 := c 3 (by omega)
  simp only [Qx.cs, e1, e2, List.getElem?_cons_zero, List.getElem?_cons_succ, Nat.add_zero] at c0 c1' c2' c3
  exact hE.set4 hv ⟨c0, c1', c2', c3⟩
/-- A row that make made, its elements set. -/
structure MadeR (w W : World) (b : Nat) (qs : List Rat) (l : List Qx) : Prop where
  blk : Blk W b 44 (qcs l)
  len : l.length = qs.length
  el : ∀ j (hj : j < l.length), cq W (l[j]).v (qs.getD j 0)
  below : Below w.heap.size w W
  new : w.heap.size ≤ b
theorem MadeR.later {w W W' b qs l} (H : MadeR w W b qs l) (hb : Below W.heap.size W W') : MadeR w W' b qs l := ⟨H.blk.below hb, H.len, fun j hj => cq_stable.below (H.el j hj) hb, bthen H.below hb, H.new⟩
theorem MadeR.slices {w W b qs l} (H : MadeR w W b qs l) {k : Nat} (hk : k < l.length) : (∃ A l' c, (l[k]).s = .slice A l' c) ∧ (∃ A l' c, (l[k]).t = .slice A l' c) := isQc.slices (H.el k hk)
theorem getD_set (l : List Rat) (k j : Nat) (q : Rat) : (l.set k q).getD j 0 = if k = j ∧ k < l.length then q else l.getD j 0 := by
  simp only [List.getD_eq_getElem?_getD, List.getElem?_set]
  by_cases h : k = j
  · subst h
    by_cases h2 : k < l.length
    · simp [h2]
    · simp [h2]
  · simp [h]
theorem MadeR.set {w W b qs l} (H : MadeR w W b qs l) {k : Nat} (hk : k < l.length) {y : Qx} {q : Rat} (hy : cq W y.v q) : MadeR w (st4 W b (k * 4) y) b (qs.set k q) (l.set k y) := by
  refine ⟨st4_blk H.blk hk y, by simp [H.len], fun j hj => ?_, st4_below H.below H.new, H.new⟩
  have hj2 : j < l.length := by simpa using hj
  rw [getD_set]
  by_cases h : k = j
  · subst h
    rw [if_pos ⟨rfl, by have := H.len; omega⟩]
    simp only [List.getElem_set_self]
    exact st4_el cq_stable H.blk hk (H.slices hk) hy
  · rw [if_neg (fun h2 => h h2.1)]
    simp only [List.getElem_set_ne h]
    exact st4_el cq_stable H.blk hk (H.slices hk) (H.el j hj2)
theorem MadeR.start {w W : World} (hb : Below w.heap.size w W) (n : Nat) : MadeR w (W.alloc (.cells (qcs (List.replicate n Qx.zero)).toArray 44)) W.heap.size (List.replicate n 0) (List.replicate n Qx.zero) := by
  refine ⟨Blk.new _ _ _ rfl, by simp, fun j hj => ?_, bal hb, hb.size⟩
  have hj2 : j < n := by simpa using hj
  simp only [List.getElem_replicate]
  rw [show (List.replicate n (0 : Rat)).getD j 0 = 0 by simp [List.getD_eq_getElem?_getD, hj2]]
  exact cq_ratl.zero _
theorem MadeR.vq {w W b qs l n0 c} (H : MadeR w W b qs l) (hc : qs.length ≤ c) (hm : c ≤ maxLen) : Vq n0 cq W (.slice (some ⟨b, 0, none⟩) qs.length c) qs := by
  rw [← H.len]
  exact Blk.vq H.blk H.len (by have := H.len; omega) hm H.el
theorem MadeR.ret {w W b qs l n0 k c} (H : MadeR w W b qs l) (hk : k = qs.length) (hc : qs.length ≤ c) (hm : c ≤ maxLen) : RetV w n0 qs (.returned (.slice (some ⟨b, 0, none⟩) k c)) W := by
  subst hk
  exact ⟨_, _, _, rfl, H.below, H.vq hc hm, fun b' o e => by injection e with e; injection e with e _ _; subst e; exact H.new⟩
end Go.Proofs.YtdkfdamihnieiaaGreat
end
section
/- Contracts of package vec, part 12: Unit. -/
open Go Go.RowKit Go.Shelf
namespace Go.Proofs.YtdkfdamihnieiaaGreat
open Go.Proofs
/-- The k-th unit vector. -/
def unitL (n k : Nat) : List Rat := (List.replicate n 0).set k 1
/-- make([]Q, n), the world a letter. -/
theorem make_R (w : World) (n : Nat) (h : n ≤ 1000000000) : ∃ W1, (Instr.makeSlice 26 (.int .i64 (n : Int)) (.int .i64 (n : Int))).run Tryz.prog w = .ok (.slice (some ⟨w.heap.size, 0, none⟩) n n) W1 ∧ Hid (MadeR w W1 w.heap.size (List.replicate n 0) (List.replicate n Qx.zero)) ∧ w.heap.size < W1.heap.size := by
  refine ⟨_, make_q w n (by omega) (by omega), Lib.hid ?_, by simp⟩
  exact MadeR.start (b0 w) n
/-- The cells of an element of a made row. -/
theorem MadeR.four {w W b qs l} (H : MadeR w W b qs l) {k : Nat} (hk : k < l.length) : ∃ (n m : Bool) (p q : Option Addr × Nat × Nat), (W.cell? ⟨b, k * 4, none⟩ = some (.bool n) ∧ W.cell? ⟨b, k * 4 + 1, none⟩ = some (.slice p.1 p.2.1 p.2.2) ∧ W.cell? ⟨b, k * 4 + 2, none⟩ = some (.bool m) ∧ W.cell? ⟨b, k * 4 + 3, none⟩ = some (.slice q.1 q.2.1 q.2.2)) ∧ cq W (.agg #[.bool n, .slice p.1 p.2.1 p.2.2, .bool m, .slice q.1 q.2.1 q.2.2]) (qs.getD k 0) := by
  have c := fun i (hi : i < 4) => (H.blk.cell (k * 4 + i)).trans (qcs_get l k i hk hi)
  have he := H.el k hk
  obtain ⟨⟨A, l1, c1, e1⟩, A2, l2, c2, e2⟩ := H.slices hk
  have c0 := c 0 (by omega)
  have c1' := c 1 (by omega)
  have c2' := c 2 (by omega)
  have c3 := c 3 (by omega)
  simp only [Qx.cs, e1, e2, List.getElem?_cons_zero, List.getElem?_cons_succ, Nat.add_zero] at c0 c1' c2' c3
  simp only [Qx.v, e1, e2] at he
  exact ⟨_, _, (A, l1, c1), (A2, l2, c2), ⟨c0, c1', c2', c3⟩, he⟩
theorem MadeR.frozen {w W b qs l} (H : MadeR w W b qs l) (j : Nat) : W.frozen? ⟨b, j, none⟩ = false := H.blk.frozen j
set_option maxRecDepth 100000 in
set_option maxHeartbeats 2000000 in
theorem unit_c {n0 : Nat} (w : World) (n k : Nat) (hn : n ≤ 65536) (hk : k < n) : Calls Tryz.prog 86 #[.int .i64 (n : Int), .int .i64 (k : Int)] w (RetV w n0 (unitL n k)) := by
  obtain ⟨W1, mk, H0, hlt⟩ := make_R w n (by omega)
  go_enter Tryz.func86, Tryz.ntmps86
  go_upto_region 3 with fail
  go_wp2_with (go_at_call 49; (with_reducible refine Calls.mono (fromInt_q 1 (by omega) (by omega)) ?_); rintro e w2 ⟨n3, A3, l3, c3, m3, D3, e3, g3, rfl, hb2, hr2⟩; have HM := Lib.hid (H0.out.later hb2); obtain ⟨m, m', p, q, ⟨k0, k1, k2, k3⟩, _⟩ := HM.out.four (k := k) (by rw [List.length_replicate]; exact hk); have hf := HM.out.frozen)
  go_ret
  exact (HM.out.set (k := k) (y := ⟨n3, .slice A3 l3 c3, m3, .slice D3 e3 g3⟩) (q := 1) (by rw [List.length_replicate]; exact hk) (isQc.any hr2)).ret (by simp) (by simp) (by unfold maxLen; omega)
end Go.Proofs.YtdkfdamihnieiaaGreat
end
section
/- Contracts of package vec, part 13: FromInts. -/
open Go Go.RowKit Go.Shelf
namespace Go.Proofs.YtdkfdamihnieiaaGreat
open Go.Proofs
def toQ (xs : List Int) : List Rat := xs.map fun (z : Int) => (z : Rat)
set_option maxRecDepth 100000 in
set_option maxHeartbeats 2000000 in
theorem fromInts_c {n0 : Nat} {w : World} {v : Value} {xs : List Int} (h : Vi w v xs) (hx : ∀ z ∈ xs, -9223372036854775808 ≤ z ∧ z ≤ 9223372036854775807) (hl : xs.length ≤ 1000000000) : Calls Tryz.prog 98 #[v] w (RetV w n0 (toQ xs)) := by
  obtain ⟨A, l, c, rfl⟩ := h.shape
  obtain rfl := h.len
  obtain ⟨i0, hi, hz0, hz1, hz2⟩ := info_parts' Tryz.info44
  have HX := Lib.hid hx
  clear hx
  go_enter Tryz.func98, Tryz.ntmps98
  go_wp2
  go_loopw [2, 7] (fun sv iv wr => ∃ (k : Nat) (A' : Option Addr) (c' : Nat) (ll : List Qx), k ≤ xs.length ∧ iv = .int .i64 (k : Int) ∧ sv = .slice A' k c' ∧ RowI w wr (.slice A' k c') (toQ (xs.take k)) ll) (fun _ iv _ => xs.length - (intOf iv).toNat)
  case atStart => exact ⟨0, none, 0, [], by omega, rfl, rfl, RowI.start w⟩
  case round =>
    obtain ⟨k, A', c', ll, hk, rfl, rfl, HR⟩ := hrel
    by_cases hlt : k < xs.length
    · obtain ⟨b, o, rfl, hc⟩ := (h.below HR.below).at (by omega)
      have c1 := hc k hlt
      have htk : toQ (xs.take (k + 1)) = toQ (xs.take k) ++ [((xs.getD k 0 : Int) : Rat)] := by
        rw [List.take_succ_eq_append_getElem hlt, List.getD_eq_getElem?_getD, List.getElem?_eq_getElem hlt]; unfold toQ; rw [List.map_append]; rfl
      have hlen : (toQ (xs.take k)).length = k := by simp [toQ]; omega
      have hr0 := HX.out (xs.getD k 0) (by rw [List.getD_eq_getElem?_getD, List.getElem?_eq_getElem hlt]; exact List.getElem_mem hlt)
      obtain ⟨y, hy⟩ : ∃ y, y = xs.getD k 0 := ⟨_, rfl⟩
      rw [← hy] at c1 htk hr0
      obtain ⟨r1, r2⟩ := hr0
      have HT := Lib.hid htk
      have HL := Lib.hid hlen
      have HRR := Lib.hid HR
      have F := Lib.hid (fun W => @fromInt_q W y r1 r2)
      clear hc hy htk hlen HR h r1 r2
      go_wp2_with (first
        | (go_at_call 49; (with_reducible refine Calls.mono (F.out _) ?_); rintro e w2 ⟨n3, A3, l3, c3, m3, D3, e3, g3, rfl, hb2, hr2⟩; have hrl := HRR.out.later hb2; have hrm := hrl.later (bal (b0 w2) (o := .cells #[.bool n3, .slice A3 l3 c3, .bool m3, .slice D3 e3 g3] 44)); have HM := Lib.hid hrm; have HRL := Lib.hid hrl; clear hrl hrm)
        | (at_builtin; refine wpList_append_1 rfl (.tmp 11) (.tmp 14) 26 rfl w.heap.size 44 i0 (.agg #[.bool false, .slice none 0 0, .bool false, .slice none 0 0]) 4 64 Tryz.under26 hi hz0 hz1 hz2 rfl (by decide) _ _ _ rfl HM.out.own ⟨w2.heap.size, 0, none⟩ 1 1 [.bool n3, .slice A3 l3 c3, .bool m3, .slice D3 e3 g3] rfl rfl ?c1 ?c2 ?c3 ?c4 ?c5 ?_))
      case c1 =>
        intro j u hu
        rw [addr_add0, Nat.zero_add, World.cell?_alloc_new]; simpa using hu
      case c2 => exact Qx.one ⟨n3, .slice A3 l3 c3, m3, .slice D3 e3 g3⟩ ⟨_, _, _, rfl⟩ ⟨_, _, _, rfl⟩
      case c3 => rw [HL.out]; unfold maxLen; omega
      case c4 => rw [HL.out]; omega
      case c5 => exact HM.out.below.size
      intro A2 cc w3 hown' hgrow hblk
      have hst := HM.out.step (y := ⟨n3, .slice A3 l3 c3, m3, .slice D3 e3 g3⟩) (q := (y : Rat)) (isQc.al (hr2.mono (fun b _ hb => fun e => by
        have h9 := (HRR.out.own.lt b e).2
        simp [fresh] at hb; omega))) hown' hgrow (fun g hg => (hblk g hg).imp_right (fun h => by simpa using h))
      rw [HL.out] at hst
      have HST := Lib.hid hst
      clear hst hown' hgrow hblk
      go_wp2
      refine ⟨⟨k + 1, A2, cc, ll ++ [⟨n3, .slice A3 l3 c3, m3, .slice D3 e3 g3⟩], by omega, val_int (by omega), ?_, ?_⟩, by simp [intOf]; omega⟩
      · rw [HL.out]
      · rw [HT.out]
        exact HST.out
    · obtain rfl : k = xs.length := by omega
      rw [List.take_length] at HR
      go_wp2
      go_ret
      exact HR.ret
end Go.Proofs.YtdkfdamihnieiaaGreat
end
