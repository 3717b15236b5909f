/- Contracts of package frac, part 4: does. -/
import Derived.Test.YtdkfdamihnieiaaGreatG07
import Derived.WideMake
set_option linter.unusedSimpArgs false
set_option linter.unusedVariables false
section
open Go Go.RowKit
namespace Go.Proofs.YtdkfdamihnieiaaGreat
open Go.Proofs
/-- What a struct's field is. -/
def fldOf (P : Program) (t : TypeId) (k : Nat) : Option (TypeId × Nat) := match P.underlying t with | some (.struct fs) => (fs[k]?).map (fun f => (f.type, f.offset)) | _ => none
def aggOf (P : Program) (t : TypeId) : Option Bool := match P.underlying t with | some (.struct _) => some true | some (.array ..) => some true | some _ => some false | _ => none
theorem run_fld {P : Program} {t : TypeId} {k : Nat} {ft : TypeId} {off : Nat} (h : fldOf P t k = some (ft, off)) (cs : Array Value) (w : World) : (Instr.field t (.agg cs) k).run P w = (part ft cs off).run P w := by
  unfold fldOf at h
  cases hu : P.underlying t with
  | none => rw [hu] at h; simp at h
  | some d =>
    rw [hu] at h
    cases d <;> simp at h
    rename_i fs
    obtain ⟨f, hf, rfl, rfl⟩ := h
    simp [Instr.field, run_underlying hu, asAgg, hf, Result.andThen]
theorem run_part {P : Program} {t : TypeId} (h : aggOf P t = some false) {cs : Array Value} {off : Nat} {v : Value} (hv : cs[off]? = some v) (w : World) : (part t cs off).run P w = .ok v w := by
  unfold aggOf at h
  cases hu : P.underlying t with
  | none => rw [hu] at h; simp at h
  | some d =>
    rw [hu] at h
    cases d <;> simp_all [part, isAgg, run_underlying hu, Result.andThen]
theorem run_partA {P : Program} {t : TypeId} {n : Nat} {i : TypeInfo} (h : aggOf P t = some true) (hi : P.info? t = some i) (hn : i.size = n) {cs : Array Value} {off : Nat} (w : World) : (part t cs off).run P w = .ok (.agg (cs.extract off (off + n))) w := by
  unfold aggOf at h
  cases hu : P.underlying t with
  | none => rw [hu] at h; simp at h
  | some d =>
    rw [hu] at h
    cases d <;> simp_all [part, isAgg, run_underlying hu, Result.andThen, sizeOf, typeInfo]
theorem Tryz.fld180 : fldOf Tryz.prog 180 0 = some (178, 0) := by kernel_rfl
theorem Tryz.agg178 : aggOf Tryz.prog 178 = some false := by kernel_rfl
theorem field180 {x : Value} {w : World} : (Instr.field 180 (.agg #[x]) 0).run Tryz.prog w = .ok x w := by
  rw [run_fld Tryz.fld180, run_part (v := x) Tryz.agg178 rfl]
theorem Tryz.fld107 : fldOf Tryz.prog 107 0 = some (42, 0) := by kernel_rfl
theorem Tryz.agg42 : aggOf Tryz.prog 42 = some true := by kernel_rfl
theorem Tryz.info42 : (Tryz.prog.info? 42).map (fun i => (i.zero, i.size, i.bytes)) = some (some (.agg #[.bool false, .slice none 0 0]), 2, 32) := by kernel_rfl
theorem field107 {n : Bool} {s t u : Value} {w : World} : (Instr.field 107 (.agg #[.bool n, s, t, u]) 0).run Tryz.prog w = .ok (.agg #[.bool n, s]) w := by
  obtain ⟨i, hi, _, h2, _⟩ := info_parts' Tryz.info42
  rw [run_fld Tryz.fld107, run_partA Tryz.agg42 hi h2]; rfl
theorem Tryz.under181 : Tryz.prog.underlying 181 = some (.map 9 180) := by kernel_rfl
theorem Tryz.under9 : Tryz.prog.underlying 9 = some .string := by kernel_rfl
theorem alloc_set (w : World) (o o' : Obj) : ({ (w.alloc o) with heap := (w.alloc o).heap.setIfInBounds w.heap.size o' } : World) = w.alloc o' := by
  have e : (w.heap.push o).setIfInBounds w.heap.size o' = w.heap.push o' := by
    apply Array.ext_getElem?
    intro k
    simp only [Array.getElem?_setIfInBounds, Array.getElem?_push, Array.size_push]
    by_cases hk : k = w.heap.size
    · subst hk; simp
    · have : w.heap.size ≠ k := fun e => hk e.symm
      simp [hk, this]
  show ({ w with heap := (w.heap.push o).setIfInBounds w.heap.size o' } : World) = { w with heap := w.heap.push o' }
  rw [e]
theorem new_at (W : World) (o : Obj) {n : Nat} (hn : W.heap.size = n) : (W.alloc o).heap[n]? = some o := by subst hn; exact heap_alloc_new W o
/-- A new key into a map that has just been made. -/
theorem run_ins {w : World} {r clock : Nat} {es : Array MapEntry} {s : ByteArray} {val : Value} (hr : r = w.heap.size) (hf : Instr.findNow .string (.string s) es.toList 0 = some none) :
    (Instr.mapUpdate 181 (.map (some r)) (.string s) val).run Tryz.prog (w.alloc (.map es clock)) = .ok () (w.alloc (.map (es.push { key := .string s, val := val, born := clock }) (clock + 1))) := by
  subst hr
  have hb : (w.alloc (.map es clock)).heap[w.heap.size]? = some (.map es clock) := heap_alloc_new w _
  have hc : (Instr.checkKey false 10000 9 (.string s)).run Tryz.prog (w.alloc (.map es clock)) = .ok () (w.alloc (.map es clock)) := MapKept.run_checkKey (k := .string s) Tryz.under9 (by simp [MapKept.IsKey]) false 9999
  simp [Instr.mapUpdate, run_underlying Tryz.under181, MapKept.run_getObj_map hb, hc, MapKept.run_findKey Tryz.under9 hf, MapKept.run_setObj_map _ hb, Result.andThen]
  exact alloc_set w _ _
theorem run_look {w : World} {r clock i : Nat} {es : Array MapEntry} {s : ByteArray} {val : Value} (hb : w.heap[r]? = some (.map es clock)) (hf : Instr.findNow .string (.string s) es.toList 0 = some (some (i, val))) :
    (Instr.lookup 181 (.map (some r)) (.string s) false).run Tryz.prog w = .ok val w := by
  have hc : ∀ e, (Instr.checkKey e 10000 9 (.string s)).run Tryz.prog w = .ok () w := fun e => MapKept.run_checkKey (k := .string s) Tryz.under9 (by simp [MapKept.IsKey]) e 9999
  simp [Instr.lookup, run_underlying Tryz.under181, MapKept.run_getObj_map hb, hc, MapKept.run_findKey Tryz.under9 hf, Result.andThen]
theorem mp_of {n r : Nat} {W0 W : World} {o : Obj} (h : Bx n W0 W) (h0 : W0.heap[r]? = some o) (hr : r < n) : W.heap[r]? = some o := (h.b.block r hr).trans h0
theorem mp_dr {n r : Nat} {W0 W : World} {o : Obj} (h : Bx n W0 W) (h0 : W0.heap[r]? = some o) (hr : r < n) : W.drew.heap[r]? = some o := (h.b.block r hr).trans h0
theorem mp_set4 {n r b : Nat} {W0 W : World} {o : Obj} {x y z u : Value} (h : Bx n W0 W) (h0 : W0.heap[r]? = some o) (hr : r < n) (hb : r ≠ b) : ((((W.setCell ⟨b, 0, none⟩ x).setCell ⟨b, 1, none⟩ y).setCell ⟨b, 2, none⟩ z).setCell ⟨b, 3, none⟩ u).heap[r]? = some o := by
  rw [Below.heap_setCell _ _ _ _ hb, Below.heap_setCell _ _ _ _ hb, Below.heap_setCell _ _ _ _ hb, Below.heap_setCell _ _ _ _ hb]
  exact mp_of h h0 hr
/-- The table of the operations. -/
def ops : Obj := (Obj.map #[{ key := .string { data := #[97, 100, 100] }, val := .agg #[.func (.func 163) #[] #[]], born := 0 }, { key := .string { data := #[115, 117, 98] }, val := .agg #[.func (.func 165) #[] #[]], born := 1 }, { key := .string { data := #[109, 117, 108] }, val := .agg #[.func (.func 167) #[] #[]], born := 2 }, { key := .string { data := #[100, 105, 118] }, val := .agg #[.func (.func 168) #[] #[]], born := 3 }] 4)
theorem ins0 {w : World} {r : Nat} (hr : r = w.heap.size) : (Instr.mapUpdate 181 (.map (some r)) (.string { data := #[97, 100, 100] }) (.agg #[.func (.func 163) #[] #[]])).run Tryz.prog (w.alloc (.map #[] 0)) = .ok () (w.alloc (.map #[{ key := .string { data := #[97, 100, 100] }, val := .agg #[.func (.func 163) #[] #[]], born := 0 }] 1)) := run_ins hr (by rfl)
theorem look0 {w : World} {r : Nat} (h : w.heap[r]? = some ops) : (Instr.lookup 181 (.map (some r)) (.string { data := #[97, 100, 100] }) false).run Tryz.prog w = .ok (.agg #[.func (.func 163) #[] #[]]) w := run_look (i := 0) h (by rfl)
theorem ins1 {w : World} {r : Nat} (hr : r = w.heap.size) : (Instr.mapUpdate 181 (.map (some r)) (.string { data := #[115, 117, 98] }) (.agg #[.func (.func 165) #[] #[]])).run Tryz.prog (w.alloc (.map #[{ key := .string { data := #[97, 100, 100] }, val := .agg #[.func (.func 163) #[] #[]], born := 0 }] 1)) = .ok () (w.alloc (.map #[{ key := .string { data := #[97, 100, 100] }, val := .agg #[.func (.func 163) #[] #[]], born := 0 }, { key := .string { data := #[115, 117, 98] }, val := .agg #[.func (.func 165) #[] #[]], born := 1 }] 2)) := run_ins hr (by rfl)
theorem look1 {w : World} {r : Nat} (h : w.heap[r]? = some ops) : (Instr.lookup 181 (.map (some r)) (.string { data := #[115, 117, 98] }) false).run Tryz.prog w = .ok (.agg #[.func (.func 165) #[] #[]]) w := run_look (i := 1) h (by rfl)
theorem ins2 {w : World} {r : Nat} (hr : r = w.heap.size) : (Instr.mapUpdate 181 (.map (some r)) (.string { data := #[109, 117, 108] }) (.agg #[.func (.func 167) #[] #[]])).run Tryz.prog (w.alloc (.map #[{ key := .string { data := #[97, 100, 100] }, val := .agg #[.func (.func 163) #[] #[]], born := 0 }, { key := .string { data := #[115, 117, 98] }, val := .agg #[.func (.func 165) #[] #[]], born := 1 }] 2)) = .ok () (w.alloc (.map #[{ key := .string { data := #[97, 100, 100] }, val := .agg #[.func (.func 163) #[] #[]], born := 0 }, { key := .string { data := #[115, 117, 98] }, val := .agg #[.func (.func 165) #[] #[]], born := 1 }, { key := .string { data := #[109, 117, 108] }, val := .agg #[.func (.func 167) #[] #[]], born := 2 }] 3)) := run_ins hr (by rfl)
theorem look2 {w : World} {r : Nat} (h : w.heap[r]? = some ops) : (Instr.lookup 181 (.map (some r)) (.string { data := #[109, 117, 108] }) false).run Tryz.prog w = .ok (.agg #[.func (.func 167) #[] #[]]) w := run_look (i := 2) h (by rfl)
theorem ins3 {w : World} {r : Nat} (hr : r = w.heap.size) : (Instr.mapUpdate 181 (.map (some r)) (.string { data := #[100, 105, 118] }) (.agg #[.func (.func 168) #[] #[]])).run Tryz.prog (w.alloc (.map #[{ key := .string { data := #[97, 100, 100] }, val := .agg #[.func (.func 163) #[] #[]], born := 0 }, { key := .string { data := #[115, 117, 98] }, val := .agg #[.func (.func 165) #[] #[]], born := 1 }, { key := .string { data := #[109, 117, 108] }, val := .agg #[.func (.func 167) #[] #[]], born := 2 }] 3)) = .ok () (w.alloc ops) := run_ins hr (by rfl)
theorem look3 {w : World} {r : Nat} (h : w.heap[r]? = some ops) : (Instr.lookup 181 (.map (some r)) (.string { data := #[100, 105, 118] }) false).run Tryz.prog w = .ok (.agg #[.func (.func 168) #[] #[]]) w := run_look (i := 3) h (by rfl)
theorem heap_dr (W : World) : W.drew.heap = W.heap := rfl
attribute [local go_sem] field180 ins0 ins1 ins2 ins3
set_option maxRecDepth 100000 in
set_option maxHeartbeats 2000000 in
theorem does_add {ok1 ok2 w va vb p q A B} (h1 : isQ ok1 w va p A) (h2 : isQ ok2 w vb q B) (hA0 : 0 < A) (hB0 : 0 < B) (hA : A ≤ 400000000) (hB : B ≤ 400000000) : Calls Tryz.prog 89 #[.string { data := #[97, 100, 100] }, va, vb] w (RetQ w (fresh w) (p + q)) := by
  obtain ⟨n1, A1, l1, c1, m1, D1, e1, g1, rfl⟩ := h1.shape
  obtain ⟨n2, A2, l2, c2, m2, D2, e2, g2, rfl⟩ := h2.shape
  obtain ⟨z0, z1, z2, z3, z4⟩ := z3 w.heap.size
  have hmm := @run_makeMap Tryz.prog
  have Q0 := bdr (bal (o := ops) (bal (o := (Obj.cells #[Value.bool false, .slice none 0 0, .bool false, .slice none 0 0] 44)) (bal (o := (Obj.cells #[Value.bool n2, .slice A2 l2 c2, .bool m2, .slice D2 e2 g2] 44)) (bal (o := (Obj.cells #[Value.bool n1, .slice A1 l1 c1, .bool m1, .slice D1 e1 g1] 44)) (b0 w)))))
  have hm0 : ((((w.alloc (Obj.cells #[Value.bool n1, .slice A1 l1 c1, .bool m1, .slice D1 e1 g1] 44)).alloc (Obj.cells #[Value.bool n2, .slice A2 l2 c2, .bool m2, .slice D2 e2 g2] 44)).alloc (Obj.cells #[Value.bool false, .slice none 0 0, .bool false, .slice none 0 0] 44)).alloc ops).heap[w.heap.size + 1 + 1 + 1]? = some ops := new_at _ _ (by simp)
  have HM := Lib.hid hm0
  clear hm0
  have hl0 := look0 (w := ((((w.alloc (Obj.cells #[Value.bool n1, .slice A1 l1 c1, .bool m1, .slice D1 e1 g1] 44)).alloc (Obj.cells #[Value.bool n2, .slice A2 l2 c2, .bool m2, .slice D2 e2 g2] 44)).alloc (Obj.cells #[Value.bool false, .slice none 0 0, .bool false, .slice none 0 0] 44)).alloc ops).drew) HM.out
  go_enter Tryz.func89, Tryz.ntmps89
  go_wp2
  go_region_held3 (fun w' => (∀ b o, b < w.heap.size + 1 + 1 → w'.cell? ⟨b, o, none⟩ = ((((w.alloc (Obj.cells #[Value.bool n1, .slice A1 l1 c1, .bool m1, .slice D1 e1 g1] 44)).alloc (Obj.cells #[Value.bool n2, .slice A2 l2 c2, .bool m2, .slice D2 e2 g2] 44)).alloc (Obj.cells #[Value.bool false, .slice none 0 0, .bool false, .slice none 0 0] 44)).alloc ops).cell? ⟨b, o, none⟩) ∧ w'.heap[w.heap.size + 1 + 1 + 1]? = some ops)
      ((try refine ⟨?_, ?_⟩) <;> (first
        | (with_reducible assumption)
        | (with_reducible exact keep_set4 (by assumption) (by omega) (by omega))
        | (with_reducible exact keep_set2 (by assumption) (by omega) (by omega))
        | (with_reducible exact keep_set1 (by assumption) (by omega) (by omega))
        | (with_reducible exact keep_of (by assumption) (by omega))
        | (with_reducible exact keep_dr (by assumption) (by omega))
        | (with_reducible exact keep_start)
        | (exact fun _ _ _ => rfl)
        | (with_reducible exact mp_set4 (by assumption) HM.out (by omega) (by omega))
        | (with_reducible exact mp_of (by assumption) HM.out (by omega))
        | (with_reducible exact mp_dr (by assumption) HM.out (by omega))
        | (exact HM.out)))
      (first
        | (go_at_call 91; (with_reducible refine Calls.mono (of_c (h1.below Q0) (by omega) (by omega)) ?_); rintro e w1 ⟨n3, A3, l3, c3, m3, D3, e3, g3, rfl, k1, r1⟩; have Q1 := bthen Q0 k1; have B1 := Bx.step ((Bx.refl (n := w.heap.size + 4) ((((w.alloc (Obj.cells #[Value.bool n1, .slice A1 l1 c1, .bool m1, .slice D1 e1 g1] 44)).alloc (Obj.cells #[Value.bool n2, .slice A2 l2 c2, .bool m2, .slice D2 e2 g2] 44)).alloc (Obj.cells #[Value.bool false, .slice none 0 0, .bool false, .slice none 0 0] 44)).alloc ops) (by simp)).dr) k1; have j1 := B1.cell; have f1 := B1.frozen; have s1 := B1.s; have ll1 := look0 (mp_of B1 HM.out (by omega)))
        | (go_at_call 91; (with_reducible refine Calls.mono (of_c (h2.below Q1) (by omega) (by omega)) ?_); rintro e w2 ⟨n4, A4, l4, c4, m4, D4, e4, g4, rfl, k2, r2⟩; have Q2 := bthen Q1 k2; have B2 := Bx.step B1 k2; have j2 := B2.cell; have f2 := B2.frozen; have s2 := B2.s; have ll2 := look0 (mp_of B2 HM.out (by omega)))
        | (go_at_call 163; (with_reducible refine Calls.mono (padd_c (r1.below k2) r2 (by omega) (by omega)) ?_); rintro e w3 ⟨n5, A5, l5, c5, m5, D5, e5, g5, rfl, k3, r3⟩; have Q3 := bthen Q2 k3; have B3 := Bx.step B2 k3; have j3 := B3.cell; have f3 := B3.frozen; have s3 := B3.s; have ll3 := look0 (mp_of B3 HM.out (by omega)))
        | (go_at_call 169; (with_reducible refine Calls.mono (least_c r3 (by omega)) ?_); rintro e w4 ⟨n6, A6, l6, c6, m6, D6, e6, g6, rfl, k4, r4⟩; have Q4 := bthen Q3 k4; have B4 := Bx.step B3 k4; have j4 := B4.cell; have f4 := B4.frozen; have s4 := B4.s; have ll4 := look0 (mp_of B4 HM.out (by omega))))
  all_goals
    go_wp2
    refine bodyPost_ret (v := .agg #[.bool n6, .slice A6 l6 c6, .bool m6, .slice D6 e6 g6]) ?_ rfl ?_
    · simp [results, Tryz.results89, go_sem, *]
    · exact ⟨n6, A6, l6, c6, m6, D6, e6, g6, rfl, b4set Q4 (by omega), (r4.set4 (by (first | omega | (simp; done) | (simp; omega) | (simp [fresh]; done) | (simp [fresh]; omega)))).mono (fun k _ hk => by simp [fresh] at *; omega)⟩
set_option maxRecDepth 100000 in
set_option maxHeartbeats 2000000 in
theorem does_sub {ok1 ok2 w va vb p q A B} (h1 : isQ ok1 w va p A) (h2 : isQ ok2 w vb q B) (hA0 : 0 < A) (hB0 : 0 < B) (hA : A ≤ 400000000) (hB : B ≤ 400000000) : Calls Tryz.prog 89 #[.string { data := #[115, 117, 98] }, va, vb] w (RetQ w (fresh w) (p - q)) := by
  obtain ⟨n1, A1, l1, c1, m1, D1, e1, g1, rfl⟩ := h1.shape
  obtain ⟨n2, A2, l2, c2, m2, D2, e2, g2, rfl⟩ := h2.shape
  obtain ⟨z0, z1, z2, z3, z4⟩ := z3 w.heap.size
  have hmm := @run_makeMap Tryz.prog
  have Q0 := bdr (bal (o := ops) (bal (o := (Obj.cells #[Value.bool false, .slice none 0 0, .bool false, .slice none 0 0] 44)) (bal (o := (Obj.cells #[Value.bool n2, .slice A2 l2 c2, .bool m2, .slice D2 e2 g2] 44)) (bal (o := (Obj.cells #[Value.bool n1, .slice A1 l1 c1, .bool m1, .slice D1 e1 g1] 44)) (b0 w)))))
  have hm0 : ((((w.alloc (Obj.cells #[Value.bool n1, .slice A1 l1 c1, .bool m1, .slice D1 e1 g1] 44)).alloc (Obj.cells #[Value.bool n2, .slice A2 l2 c2, .bool m2, .slice D2 e2 g2] 44)).alloc (Obj.cells #[Value.bool false, .slice none 0 0, .bool false, .slice none 0 0] 44)).alloc ops).heap[w.heap.size + 1 + 1 + 1]? = some ops := new_at _ _ (by simp)
  have HM := Lib.hid hm0
  clear hm0
  have hl0 := look1 (w := ((((w.alloc (Obj.cells #[Value.bool n1, .slice A1 l1 c1, .bool m1, .slice D1 e1 g1] 44)).alloc (Obj.cells #[Value.bool n2, .slice A2 l2 c2, .bool m2, .slice D2 e2 g2] 44)).alloc (Obj.cells #[Value.bool false, .slice none 0 0, .bool false, .slice none 0 0] 44)).alloc ops).drew) HM.out
  go_enter Tryz.func89, Tryz.ntmps89
  go_wp2
  go_region_held3 (fun w' => (∀ b o, b < w.heap.size + 1 + 1 → w'.cell? ⟨b, o, none⟩ = ((((w.alloc (Obj.cells #[Value.bool n1, .slice A1 l1 c1, .bool m1, .slice D1 e1 g1] 44)).alloc (Obj.cells #[Value.bool n2, .slice A2 l2 c2, .bool m2, .slice D2 e2 g2] 44)).alloc (Obj.cells #[Value.bool false, .slice none 0 0, .bool false, .slice none 0 0] 44)).alloc ops).cell? ⟨b, o, none⟩) ∧ w'.heap[w.heap.size + 1 + 1 + 1]? = some ops)
      ((try refine ⟨?_, ?_⟩) <;> (first
        | (with_reducible assumption)
        | (with_reducible exact keep_set4 (by assumption) (by omega) (by omega))
        | (with_reducible exact keep_set2 (by assumption) (by omega) (by omega))
        | (with_reducible exact keep_set1 (by assumption) (by omega) (by omega))
        | (with_reducible exact keep_of (by assumption) (by omega))
        | (with_reducible exact keep_dr (by assumption) (by omega))
        | (with_reducible exact keep_start)
        | (exact fun _ _ _ => rfl)
        | (with_reducible exact mp_set4 (by assumption) HM.out (by omega) (by omega))
        | (with_reducible exact mp_of (by assumption) HM.out (by omega))
        | (with_reducible exact mp_dr (by assumption) HM.out (by omega))
        | (exact HM.out)))
      (first
        | (go_at_call 91; (with_reducible refine Calls.mono (of_c (h1.below Q0) (by omega) (by omega)) ?_); rintro e w1 ⟨n3, A3, l3, c3, m3, D3, e3, g3, rfl, k1, r1⟩; have Q1 := bthen Q0 k1; have B1 := Bx.step ((Bx.refl (n := w.heap.size + 4) ((((w.alloc (Obj.cells #[Value.bool n1, .slice A1 l1 c1, .bool m1, .slice D1 e1 g1] 44)).alloc (Obj.cells #[Value.bool n2, .slice A2 l2 c2, .bool m2, .slice D2 e2 g2] 44)).alloc (Obj.cells #[Value.bool false, .slice none 0 0, .bool false, .slice none 0 0] 44)).alloc ops) (by simp)).dr) k1; have j1 := B1.cell; have f1 := B1.frozen; have s1 := B1.s; have ll1 := look1 (mp_of B1 HM.out (by omega)))
        | (go_at_call 91; (with_reducible refine Calls.mono (of_c (h2.below Q1) (by omega) (by omega)) ?_); rintro e w2 ⟨n4, A4, l4, c4, m4, D4, e4, g4, rfl, k2, r2⟩; have Q2 := bthen Q1 k2; have B2 := Bx.step B1 k2; have j2 := B2.cell; have f2 := B2.frozen; have s2 := B2.s; have ll2 := look1 (mp_of B2 HM.out (by omega)))
        | (go_at_call 165; (with_reducible refine Calls.mono (psub_c (r1.below k2) r2 (by omega) (by omega)) ?_); rintro e w3 ⟨n5, A5, l5, c5, m5, D5, e5, g5, rfl, k3, r3⟩; have Q3 := bthen Q2 k3; have B3 := Bx.step B2 k3; have j3 := B3.cell; have f3 := B3.frozen; have s3 := B3.s; have ll3 := look1 (mp_of B3 HM.out (by omega)))
        | (go_at_call 169; (with_reducible refine Calls.mono (least_c r3 (by omega)) ?_); rintro e w4 ⟨n6, A6, l6, c6, m6, D6, e6, g6, rfl, k4, r4⟩; have Q4 := bthen Q3 k4; have B4 := Bx.step B3 k4; have j4 := B4.cell; have f4 := B4.frozen; have s4 := B4.s; have ll4 := look1 (mp_of B4 HM.out (by omega))))
  all_goals
    go_wp2
    refine bodyPost_ret (v := .agg #[.bool n6, .slice A6 l6 c6, .bool m6, .slice D6 e6 g6]) ?_ rfl ?_
    · simp [results, Tryz.results89, go_sem, *]
    · exact ⟨n6, A6, l6, c6, m6, D6, e6, g6, rfl, b4set Q4 (by omega), (r4.set4 (by (first | omega | (simp; done) | (simp; omega) | (simp [fresh]; done) | (simp [fresh]; omega)))).mono (fun k _ hk => by simp [fresh] at *; omega)⟩
set_option maxRecDepth 100000 in
set_option maxHeartbeats 2000000 in
theorem does_mul {ok1 ok2 w va vb p q A B} (h1 : isQ ok1 w va p A) (h2 : isQ ok2 w vb q B) (hA0 : 0 < A) (hB0 : 0 < B) (hA : A ≤ 400000000) (hB : B ≤ 400000000) : Calls Tryz.prog 89 #[.string { data := #[109, 117, 108] }, va, vb] w (RetQ w (fresh w) (p * q)) := by
  obtain ⟨n1, A1, l1, c1, m1, D1, e1, g1, rfl⟩ := h1.shape
  obtain ⟨n2, A2, l2, c2, m2, D2, e2, g2, rfl⟩ := h2.shape
  obtain ⟨z0, z1, z2, z3, z4⟩ := z3 w.heap.size
  have hmm := @run_makeMap Tryz.prog
  have Q0 := bdr (bal (o := ops) (bal (o := (Obj.cells #[Value.bool false, .slice none 0 0, .bool false, .slice none 0 0] 44)) (bal (o := (Obj.cells #[Value.bool n2, .slice A2 l2 c2, .bool m2, .slice D2 e2 g2] 44)) (bal (o := (Obj.cells #[Value.bool n1, .slice A1 l1 c1, .bool m1, .slice D1 e1 g1] 44)) (b0 w)))))
  have hm0 : ((((w.alloc (Obj.cells #[Value.bool n1, .slice A1 l1 c1, .bool m1, .slice D1 e1 g1] 44)).alloc (Obj.cells #[Value.bool n2, .slice A2 l2 c2, .bool m2, .slice D2 e2 g2] 44)).alloc (Obj.cells #[Value.bool false, .slice none 0 0, .bool false, .slice none 0 0] 44)).alloc ops).heap[w.heap.size + 1 + 1 + 1]? = some ops := new_at _ _ (by simp)
  have HM := Lib.hid hm0
  clear hm0
  have hl0 := look2 (w := ((((w.alloc (Obj.cells #[Value.bool n1, .slice A1 l1 c1, .bool m1, .slice D1 e1 g1] 44)).alloc (Obj.cells #[Value.bool n2, .slice A2 l2 c2, .bool m2, .slice D2 e2 g2] 44)).alloc (Obj.cells #[Value.bool false, .slice none 0 0, .bool false, .slice none 0 0] 44)).alloc ops).drew) HM.out
  go_enter Tryz.func89, Tryz.ntmps89
  go_wp2
  go_region_held3 (fun w' => (∀ b o, b < w.heap.size + 1 + 1 → w'.cell? ⟨b, o, none⟩ = ((((w.alloc (Obj.cells #[Value.bool n1, .slice A1 l1 c1, .bool m1, .slice D1 e1 g1] 44)).alloc (Obj.cells #[Value.bool n2, .slice A2 l2 c2, .bool m2, .slice D2 e2 g2] 44)).alloc (Obj.cells #[Value.bool false, .slice none 0 0, .bool false, .slice none 0 0] 44)).alloc ops).cell? ⟨b, o, none⟩) ∧ w'.heap[w.heap.size + 1 + 1 + 1]? = some ops)
      ((try refine ⟨?_, ?_⟩) <;> (first
        | (with_reducible assumption)
        | (with_reducible exact keep_set4 (by assumption) (by omega) (by omega))
        | (with_reducible exact keep_set2 (by assumption) (by omega) (by omega))
        | (with_reducible exact keep_set1 (by assumption) (by omega) (by omega))
        | (with_reducible exact keep_of (by assumption) (by omega))
        | (with_reducible exact keep_dr (by assumption) (by omega))
        | (with_reducible exact keep_start)
        | (exact fun _ _ _ => rfl)
        | (with_reducible exact mp_set4 (by assumption) HM.out (by omega) (by omega))
        | (with_reducible exact mp_of (by assumption) HM.out (by omega))
        | (with_reducible exact mp_dr (by assumption) HM.out (by omega))
        | (exact HM.out)))
      (first
        | (go_at_call 91; (with_reducible refine Calls.mono (of_c (h1.below Q0) (by omega) (by omega)) ?_); rintro e w1 ⟨n3, A3, l3, c3, m3, D3, e3, g3, rfl, k1, r1⟩; have Q1 := bthen Q0 k1; have B1 := Bx.step ((Bx.refl (n := w.heap.size + 4) ((((w.alloc (Obj.cells #[Value.bool n1, .slice A1 l1 c1, .bool m1, .slice D1 e1 g1] 44)).alloc (Obj.cells #[Value.bool n2, .slice A2 l2 c2, .bool m2, .slice D2 e2 g2] 44)).alloc (Obj.cells #[Value.bool false, .slice none 0 0, .bool false, .slice none 0 0] 44)).alloc ops) (by simp)).dr) k1; have j1 := B1.cell; have f1 := B1.frozen; have s1 := B1.s; have ll1 := look2 (mp_of B1 HM.out (by omega)))
        | (go_at_call 91; (with_reducible refine Calls.mono (of_c (h2.below Q1) (by omega) (by omega)) ?_); rintro e w2 ⟨n4, A4, l4, c4, m4, D4, e4, g4, rfl, k2, r2⟩; have Q2 := bthen Q1 k2; have B2 := Bx.step B1 k2; have j2 := B2.cell; have f2 := B2.frozen; have s2 := B2.s; have ll2 := look2 (mp_of B2 HM.out (by omega)))
        | (go_at_call 167; (with_reducible refine Calls.mono (pmul_c (r1.below k2) r2 (by omega) (by omega)) ?_); rintro e w3 ⟨n5, A5, l5, c5, m5, D5, e5, g5, rfl, k3, r3⟩; have Q3 := bthen Q2 k3; have B3 := Bx.step B2 k3; have j3 := B3.cell; have f3 := B3.frozen; have s3 := B3.s; have ll3 := look2 (mp_of B3 HM.out (by omega)))
        | (go_at_call 169; (with_reducible refine Calls.mono (least_c r3 (by omega)) ?_); rintro e w4 ⟨n6, A6, l6, c6, m6, D6, e6, g6, rfl, k4, r4⟩; have Q4 := bthen Q3 k4; have B4 := Bx.step B3 k4; have j4 := B4.cell; have f4 := B4.frozen; have s4 := B4.s; have ll4 := look2 (mp_of B4 HM.out (by omega))))
  all_goals
    go_wp2
    refine bodyPost_ret (v := .agg #[.bool n6, .slice A6 l6 c6, .bool m6, .slice D6 e6 g6]) ?_ rfl ?_
    · simp [results, Tryz.results89, go_sem, *]
    · exact ⟨n6, A6, l6, c6, m6, D6, e6, g6, rfl, b4set Q4 (by omega), (r4.set4 (by (first | omega | (simp; done) | (simp; omega) | (simp [fresh]; done) | (simp [fresh]; omega)))).mono (fun k _ hk => by simp [fresh] at *; omega)⟩
set_option maxRecDepth 100000 in
set_option maxHeartbeats 2000000 in
theorem does_div {ok1 ok2 w va vb p q A B} (h1 : isQ ok1 w va p A) (h2 : isQ ok2 w vb q B) (hA0 : 0 < A) (hB0 : 0 < B) (hA : A ≤ 400000000) (hB : B ≤ 400000000) (hne : q ≠ 0) : Calls Tryz.prog 89 #[.string { data := #[100, 105, 118] }, va, vb] w (RetQ w (fresh w) (p / q)) := by
  obtain ⟨n1, A1, l1, c1, m1, D1, e1, g1, rfl⟩ := h1.shape
  obtain ⟨n2, A2, l2, c2, m2, D2, e2, g2, rfl⟩ := h2.shape
  obtain ⟨z0, z1, z2, z3, z4⟩ := z3 w.heap.size
  have hmm := @run_makeMap Tryz.prog
  have Q0 := bdr (bal (o := ops) (bal (o := (Obj.cells #[Value.bool false, .slice none 0 0, .bool false, .slice none 0 0] 44)) (bal (o := (Obj.cells #[Value.bool n2, .slice A2 l2 c2, .bool m2, .slice D2 e2 g2] 44)) (bal (o := (Obj.cells #[Value.bool n1, .slice A1 l1 c1, .bool m1, .slice D1 e1 g1] 44)) (b0 w)))))
  have hm0 : ((((w.alloc (Obj.cells #[Value.bool n1, .slice A1 l1 c1, .bool m1, .slice D1 e1 g1] 44)).alloc (Obj.cells #[Value.bool n2, .slice A2 l2 c2, .bool m2, .slice D2 e2 g2] 44)).alloc (Obj.cells #[Value.bool false, .slice none 0 0, .bool false, .slice none 0 0] 44)).alloc ops).heap[w.heap.size + 1 + 1 + 1]? = some ops := new_at _ _ (by simp)
  have HM := Lib.hid hm0
  clear hm0
  have hl0 := look3 (w := ((((w.alloc (Obj.cells #[Value.bool n1, .slice A1 l1 c1, .bool m1, .slice D1 e1 g1] 44)).alloc (Obj.cells #[Value.bool n2, .slice A2 l2 c2, .bool m2, .slice D2 e2 g2] 44)).alloc (Obj.cells #[Value.bool false, .slice none 0 0, .bool false, .slice none 0 0] 44)).alloc ops).drew) HM.out
  go_enter Tryz.func89, Tryz.ntmps89
  go_wp2
  go_region_held3 (fun w' => (∀ b o, b < w.heap.size + 1 + 1 → w'.cell? ⟨b, o, none⟩ = ((((w.alloc (Obj.cells #[Value.bool n1, .slice A1 l1 c1, .bool m1, .slice D1 e1 g1] 44)).alloc (Obj.cells #[Value.bool n2, .slice A2 l2 c2, .bool m2, .slice D2 e2 g2] 44)).alloc (Obj.cells #[Value.bool false, .slice none 0 0, .bool false, .slice none 0 0] 44)).alloc ops).cell? ⟨b, o, none⟩) ∧ w'.heap[w.heap.size + 1 + 1 + 1]? = some ops)
      ((try refine ⟨?_, ?_⟩) <;> (first
        | (with_reducible assumption)
        | (with_reducible exact keep_set4 (by assumption) (by omega) (by omega))
        | (with_reducible exact keep_set2 (by assumption) (by omega) (by omega))
        | (with_reducible exact keep_set1 (by assumption) (by omega) (by omega))
        | (with_reducible exact keep_of (by assumption) (by omega))
        | (with_reducible exact keep_dr (by assumption) (by omega))
        | (with_reducible exact keep_start)
        | (exact fun _ _ _ => rfl)
        | (with_reducible exact mp_set4 (by assumption) HM.out (by omega) (by omega))
        | (with_reducible exact mp_of (by assumption) HM.out (by omega))
        | (with_reducible exact mp_dr (by assumption) HM.out (by omega))
        | (exact HM.out)))
      (first
        | (go_at_call 91; (with_reducible refine Calls.mono (of_c (h1.below Q0) (by omega) (by omega)) ?_); rintro e w1 ⟨n3, A3, l3, c3, m3, D3, e3, g3, rfl, k1, r1⟩; have Q1 := bthen Q0 k1; have B1 := Bx.step ((Bx.refl (n := w.heap.size + 4) ((((w.alloc (Obj.cells #[Value.bool n1, .slice A1 l1 c1, .bool m1, .slice D1 e1 g1] 44)).alloc (Obj.cells #[Value.bool n2, .slice A2 l2 c2, .bool m2, .slice D2 e2 g2] 44)).alloc (Obj.cells #[Value.bool false, .slice none 0 0, .bool false, .slice none 0 0] 44)).alloc ops) (by simp)).dr) k1; have j1 := B1.cell; have f1 := B1.frozen; have s1 := B1.s; have ll1 := look3 (mp_of B1 HM.out (by omega)))
        | (go_at_call 91; (with_reducible refine Calls.mono (of_c (h2.below Q1) (by omega) (by omega)) ?_); rintro e w2 ⟨n4, A4, l4, c4, m4, D4, e4, g4, rfl, k2, r2⟩; have Q2 := bthen Q1 k2; have B2 := Bx.step B1 k2; have j2 := B2.cell; have f2 := B2.frozen; have s2 := B2.s; have ll2 := look3 (mp_of B2 HM.out (by omega)))
        | (go_at_call 168; (with_reducible refine Calls.mono (pdiv_c (r1.below k2) r2 (by omega) (by omega) hA0 hne) ?_); rintro e w3 ⟨n5, A5, l5, c5, m5, D5, e5, g5, rfl, k3, r3⟩; have Q3 := bthen Q2 k3; have B3 := Bx.step B2 k3; have j3 := B3.cell; have f3 := B3.frozen; have s3 := B3.s; have ll3 := look3 (mp_of B3 HM.out (by omega)))
        | (go_at_call 169; (with_reducible refine Calls.mono (least_c r3 (by omega)) ?_); rintro e w4 ⟨n6, A6, l6, c6, m6, D6, e6, g6, rfl, k4, r4⟩; have Q4 := bthen Q3 k4; have B4 := Bx.step B3 k4; have j4 := B4.cell; have f4 := B4.frozen; have s4 := B4.s; have ll4 := look3 (mp_of B4 HM.out (by omega))))
  all_goals
    go_wp2
    refine bodyPost_ret (v := .agg #[.bool n6, .slice A6 l6 c6, .bool m6, .slice D6 e6 g6]) ?_ rfl ?_
    · simp [results, Tryz.results89, go_sem, *]
    · exact ⟨n6, A6, l6, c6, m6, D6, e6, g6, rfl, b4set Q4 (by omega), (r4.set4 (by (first | omega | (simp; done) | (simp; omega) | (simp [fresh]; done) | (simp [fresh]; omega)))).mono (fun k _ hk => by simp [fresh] at *; omega)⟩
end Go.Proofs.YtdkfdamihnieiaaGreat
end
section
/- Contracts of package frac, part 5: Add, Sub, Mul, Div, Neg, Canonical, FromInt64, New, Sign. -/
open Go Go.RowKit
namespace Go.Proofs.YtdkfdamihnieiaaGreat
open Go.Proofs
theorem RetQ.set4 {w w1 W : World} {n m : Bool} {A D : Option Addr} {l c e g b : Nat} {q : Rat} (hb : Below w.heap.size w w1) (hq : isQc (fresh W) w1 (.agg #[.bool n, .slice A l c, .bool m, .slice D e g]) q) (hbb : w.heap.size ≤ b) (hlt : b < W.heap.size) :
    RetQ w (fresh w) q (.returned (.agg #[.bool n, .slice A l c, .bool m, .slice D e g])) ((((w1.setCell ⟨b, 0, none⟩ (.bool n)).setCell ⟨b, 1, none⟩ (.slice A l c)).setCell ⟨b, 2, none⟩ (.bool m)).setCell ⟨b, 3, none⟩ (.slice D e g)) :=
  ⟨n, A, l, c, m, D, e, g, rfl, b4set hb hbb, (hq.set4 (by unfold fresh; omega)).mono (fun k _ hk => by unfold fresh at *; omega)⟩
theorem isQ.al {ok w v q B} (h : isQ ok w v q B) {o} : isQ ok (w.alloc o) v q B := h.below (bal (b0 _))
theorem isQ.dr {ok w v q B} (h : isQ ok w v q B) : isQ ok w.drew v q B := h.below (bdr (b0 _))
theorem isQc.al {ok w v q} (h : isQc ok w v q) {o} : isQc ok (w.alloc o) v q := h.below (bal (b0 _))
theorem isQc.dr {ok w v q} (h : isQc ok w v q) : isQc ok w.drew v q := h.below (bdr (b0 _))
theorem isQ.zero {ok w B} (hB : 0 < B) : isQ ok w (.agg #[.bool false, .slice none 0 0, .bool false, .slice none 0 0]) 0 B := isQc.zero.q (qB_zero hB)
set_option maxHeartbeats 1000000 in
theorem add_q {ok1 ok2 w va vb p q A B} (h1 : isQ ok1 w va p A) (h2 : isQ ok2 w vb q B) (hA0 : 0 < A) (hB0 : 0 < B) (hA : A ≤ 400000000) (hB : B ≤ 400000000) : Calls Tryz.prog 29 #[va, vb] w (RetQ w (fresh w) (p + q)) := by
  obtain ⟨n1, A1, l1, c1, m1, D1, e1, g1, rfl⟩ := h1.shape
  obtain ⟨n2, A2, l2, c2, m2, D2, e2, g2, rfl⟩ := h2.shape
  obtain ⟨z0, z1, z2, z3, z4⟩ := z3 w.heap.size
  go_enter Tryz.func29, Tryz.ntmps29
  go_wp2_with (go_at_call 89; (with_reducible refine Calls.mono (does_add (h1.below (bal (bal (bal (b0 _))))) (h2.below (bal (bal (bal (b0 _))))) hA0 hB0 hA hB) ?_); rintro e w1 ⟨n3, A3, l3, c3, m3, D3, e3, g3, rfl, hb1, hr⟩; have B1 := Bx.step (Bx.refl (n := w.heap.size + 3) (((w.alloc (Obj.cells #[Value.bool n1, .slice A1 l1 c1, .bool m1, .slice D1 e1 g1] 44)).alloc (Obj.cells #[Value.bool n2, .slice A2 l2 c2, .bool m2, .slice D2 e2 g2] 44)).alloc (Obj.cells #[Value.bool false, .slice none 0 0, .bool false, .slice none 0 0] 44)) (by simp)) hb1; have k1 := B1.cell; have f1 := B1.frozen)
  refine bodyPost_ret (v := .agg #[.bool n3, .slice A3 l3 c3, .bool m3, .slice D3 e3 g3]) ?_ rfl ?_
  · simp [results, Tryz.results29, go_sem, k1]
  · exact RetQ.set4 (bthen (bal (bal (bal (b0 _)))) hb1) hr (by omega) (by simp)
set_option maxHeartbeats 1000000 in
theorem sub_q {ok1 ok2 w va vb p q A B} (h1 : isQ ok1 w va p A) (h2 : isQ ok2 w vb q B) (hA0 : 0 < A) (hB0 : 0 < B) (hA : A ≤ 400000000) (hB : B ≤ 400000000) : Calls Tryz.prog 65 #[va, vb] w (RetQ w (fresh w) (p - q)) := by
  obtain ⟨n1, A1, l1, c1, m1, D1, e1, g1, rfl⟩ := h1.shape
  obtain ⟨n2, A2, l2, c2, m2, D2, e2, g2, rfl⟩ := h2.shape
  obtain ⟨z0, z1, z2, z3, z4⟩ := z3 w.heap.size
  go_enter Tryz.func65, Tryz.ntmps65
  go_wp2_with (go_at_call 89; (with_reducible refine Calls.mono (does_sub (h1.below (bal (bal (bal (b0 _))))) (h2.below (bal (bal (bal (b0 _))))) hA0 hB0 hA hB) ?_); rintro e w1 ⟨n3, A3, l3, c3, m3, D3, e3, g3, rfl, hb1, hr⟩; have B1 := Bx.step (Bx.refl (n := w.heap.size + 3) (((w.alloc (Obj.cells #[Value.bool n1, .slice A1 l1 c1, .bool m1, .slice D1 e1 g1] 44)).alloc (Obj.cells #[Value.bool n2, .slice A2 l2 c2, .bool m2, .slice D2 e2 g2] 44)).alloc (Obj.cells #[Value.bool false, .slice none 0 0, .bool false, .slice none 0 0] 44)) (by simp)) hb1; have k1 := B1.cell; have f1 := B1.frozen)
  refine bodyPost_ret (v := .agg #[.bool n3, .slice A3 l3 c3, .bool m3, .slice D3 e3 g3]) ?_ rfl ?_
  · simp [results, Tryz.results65, go_sem, k1]
  · exact RetQ.set4 (bthen (bal (bal (bal (b0 _)))) hb1) hr (by omega) (by simp)
set_option maxHeartbeats 1000000 in
theorem mul_q {ok1 ok2 w va vb p q A B} (h1 : isQ ok1 w va p A) (h2 : isQ ok2 w vb q B) (hA0 : 0 < A) (hB0 : 0 < B) (hA : A ≤ 400000000) (hB : B ≤ 400000000) : Calls Tryz.prog 48 #[va, vb] w (RetQ w (fresh w) (p * q)) := by
  obtain ⟨n1, A1, l1, c1, m1, D1, e1, g1, rfl⟩ := h1.shape
  obtain ⟨n2, A2, l2, c2, m2, D2, e2, g2, rfl⟩ := h2.shape
  obtain ⟨z0, z1, z2, z3, z4⟩ := z3 w.heap.size
  go_enter Tryz.func48, Tryz.ntmps48
  go_wp2_with (go_at_call 89; (with_reducible refine Calls.mono (does_mul (h1.below (bal (bal (bal (b0 _))))) (h2.below (bal (bal (bal (b0 _))))) hA0 hB0 hA hB) ?_); rintro e w1 ⟨n3, A3, l3, c3, m3, D3, e3, g3, rfl, hb1, hr⟩; have B1 := Bx.step (Bx.refl (n := w.heap.size + 3) (((w.alloc (Obj.cells #[Value.bool n1, .slice A1 l1 c1, .bool m1, .slice D1 e1 g1] 44)).alloc (Obj.cells #[Value.bool n2, .slice A2 l2 c2, .bool m2, .slice D2 e2 g2] 44)).alloc (Obj.cells #[Value.bool false, .slice none 0 0, .bool false, .slice none 0 0] 44)) (by simp)) hb1; have k1 := B1.cell; have f1 := B1.frozen)
  refine bodyPost_ret (v := .agg #[.bool n3, .slice A3 l3 c3, .bool m3, .slice D3 e3 g3]) ?_ rfl ?_
  · simp [results, Tryz.results48, go_sem, k1]
  · exact RetQ.set4 (bthen (bal (bal (bal (b0 _)))) hb1) hr (by omega) (by simp)
theorem sign_ne {z : Int} (h : z ≠ 0) : (z.sign == 0) = false := by
  have : z.sign ≠ 0 := by rw [Ne, Int.sign_eq_zero_iff_zero]; exact h
  simpa using this
theorem isP.num_zero {a b : Int} (hb : 0 < b) : ((a : Rat) / (b : Rat) = 0) ↔ a = 0 := by
  have g := rat_ne hb
  constructor
  · intro h
    have : (a : Rat) = 0 := by
      have h2 : (a : Rat) = (a : Rat) / (b : Rat) * (b : Rat) := by grind
      rw [h2, h]; grind
    simpa using this
  · rintro rfl; simp [Rat.div_def]
/-- The sign of a rational. -/
def qs (q : Rat) : Int := q.num.sign
theorem qs_zero {q : Rat} : qs q = 0 ↔ q = 0 := by unfold qs; rw [Int.sign_eq_zero_iff_zero, Rat.num_eq_zero]
theorem qs_parts {a b : Int} (hb : 0 < b) : qs ((a : Rat) / (b : Rat)) = a.sign := by
  unfold qs
  obtain ⟨e, _⟩ := rat_parts (a := a) hb
  have hg : 0 < (Int.gcd a b : Int) := by have := Int.gcd_pos_of_ne_zero_right a (show b ≠ 0 by omega); omega
  have hd := Int.gcd_dvd_left a b
  rw [e]
  generalize (Int.gcd a b : Int) = G at *
  obtain ⟨c, hc⟩ := hd
  rw [hc, Int.mul_ediv_cancel_left _ (by omega), Int.sign_mul, Int.sign_eq_one_of_pos hg, Int.one_mul]
set_option maxHeartbeats 1000000 in
theorem sign_q {ok w v q B} (h : isQ ok w v q B) (hB0 : 0 < B) (hB : B ≤ 400000000) : Calls Tryz.prog 51 #[v] w fun e w' => e = .returned (.int .i64 (qs q)) ∧ Below w.heap.size w w' := by
  obtain ⟨n1, A1, l1, c1, m1, D1, e1, g1, rfl⟩ := h.shape
  have hf := @field107
  go_enter Tryz.func51, Tryz.ntmps51
  go_wp2_with (first
    | (go_at_call 91; (with_reducible refine Calls.mono (of_c (h.below (bal (b0 _))) hB0 (by omega)) ?_); rintro e w1 ⟨n3, A3, l3, c3, m3, D3, e3, g3, rfl, hb1, hr⟩; obtain ⟨a, b, ha, _, hb, hq⟩ := hr.parts; have Hq := Lib.hid (show a.sign = qs q by rw [hq, qs_parts hb]); clear hq)
    | (go_at_call 121; (with_reducible refine Calls.mono (sign_c ha) ?_); rintro e w2 ⟨rfl, hb2⟩; rw [Hq.out]))
  go_ret
  exact ⟨rfl, bthen (bthen (bal (b0 _)) hb1) hb2⟩
set_option maxHeartbeats 1000000 in
theorem neg_q {ok w v q B} (h : isQ ok w v q B) (hB0 : 0 < B) (hB : B ≤ 400000000) : Calls Tryz.prog 67 #[v] w (RetQ w (fresh w) (-q)) := by
  obtain ⟨n1, A1, l1, c1, m1, D1, e1, g1, rfl⟩ := h.shape
  obtain ⟨z0, z1, z4⟩ := z2 w.heap.size
  rw [show -q = 0 - q by grind]
  go_enter Tryz.func67, Tryz.ntmps67
  go_wp2_with (go_at_call 65; (with_reducible refine Calls.mono (sub_q (ok1 := fun _ => True) (isQ.zero (B := 1) (by omega)) (h.below (bal (bal (b0 _)))) (by omega) hB0 (by omega) hB) ?_); rintro e w1 ⟨n3, A3, l3, c3, m3, D3, e3, g3, rfl, hb1, hr⟩; have B1 := Bx.step (Bx.refl (n := w.heap.size + 2) ((w.alloc (Obj.cells #[Value.bool n1, .slice A1 l1 c1, .bool m1, .slice D1 e1 g1] 44)).alloc (Obj.cells #[Value.bool false, .slice none 0 0, .bool false, .slice none 0 0] 44)) (by simp)) hb1; have k1 := B1.cell; have f1 := B1.frozen)
  refine bodyPost_ret (v := .agg #[.bool n3, .slice A3 l3 c3, .bool m3, .slice D3 e3 g3]) ?_ rfl ?_
  · simp [results, Tryz.results67, go_sem, k1]
  · exact RetQ.set4 (bthen (bal (bal (b0 _))) hb1) hr (by omega) (by simp)
set_option maxHeartbeats 1000000 in
theorem canon_q {ok w v q B} (h : isQ ok w v q B) (hB0 : 0 < B) (hB : B ≤ 400000000) : Calls Tryz.prog 90 #[v] w (RetQ w (fresh w) q) := by
  obtain ⟨n1, A1, l1, c1, m1, D1, e1, g1, rfl⟩ := h.shape
  obtain ⟨z0, z1, z4⟩ := z2 w.heap.size
  go_enter Tryz.func90, Tryz.ntmps90
  go_wp2_with (first
    | (go_at_call 91; (with_reducible refine Calls.mono (of_c (h.below (bal (bal (b0 _)))) hB0 (by omega)) ?_); rintro e w0 ⟨n2, A2, l2, c2, m2, D2, e2, g2, rfl, hb0, hr0⟩; have s0 := hb0.size)
    | (go_at_call 169; (with_reducible refine Calls.mono (least_c hr0 (by omega)) ?_); rintro e w1 ⟨n3, A3, l3, c3, m3, D3, e3, g3, rfl, hb1, hr⟩; have B1 := Bx.step (Bx.step (Bx.refl (n := w.heap.size + 2) ((w.alloc (Obj.cells #[Value.bool n1, .slice A1 l1 c1, .bool m1, .slice D1 e1 g1] 44)).alloc (Obj.cells #[Value.bool false, .slice none 0 0, .bool false, .slice none 0 0] 44)) (by simp)) hb0) hb1; have k1 := B1.cell; have f1 := B1.frozen))
  refine bodyPost_ret (v := .agg #[.bool n3, .slice A3 l3 c3, .bool m3, .slice D3 e3 g3]) ?_ rfl ?_
  · simp [results, Tryz.results90, go_sem, k1]
  · exact RetQ.set4 (bthen (bthen (bal (bal (b0 _))) hb0) hb1) hr (by omega) (by simp at s0; omega)
theorem isZc.le2 {ok w v z} {B : Nat} (h : isZc ok w v z B) : isZc ok w v z B := h
theorem rat_int (z : Int) : ((z : Int) : Rat).num = z ∧ ((z : Int) : Rat).den = 1 := ⟨by simp, by simp⟩
set_option maxHeartbeats 1000000 in
theorem fromInt_q {w} (z : Int) (h1 : -9223372036854775808 ≤ z) (h2 : z ≤ 9223372036854775807) : Calls Tryz.prog 49 #[.int .i64 z] w (RetQ w (fresh w) (z : Rat)) := by
  obtain ⟨z0, z1, z4⟩ := z2 w.heap.size
  go_enter Tryz.func49, Tryz.ntmps49
  go_wp2_with (go_at_call 117; (with_reducible refine Calls.mono (fromInt64_c z h1 h2) ?_); rintro e w1 ⟨n3, A3, l3, c3, rfl, hb1, hr⟩; have B1 := Bx.step (Bx.refl (n := w.heap.size + 1) (w.alloc (Obj.cells #[Value.bool false, .slice none 0 0, .bool false, .slice none 0 0] 44)) (by simp)) hb1; have k1 := B1.cell; have f1 := B1.frozen)
  refine bodyPost_ret (v := .agg #[.bool n3, .slice A3 l3 c3, .bool false, .slice none 0 0]) ?_ rfl ?_
  · simp [results, Tryz.results49, go_sem, k1]
  · refine RetQ.set4 (W := (w.alloc (Obj.cells #[Value.bool false, .slice none 0 0, .bool false, .slice none 0 0] 44))) (bthen (bal (b0 _)) hb1) ⟨_, _, _, _, 2, rfl, ?_, ?_⟩ (by omega) (by simp)
    · rw [(rat_int z).1]; exact hr
    · rw [qd_one (by simp)]; exact isZc.zero
set_option maxHeartbeats 1000000 in
theorem div_q {ok1 ok2 w va vb p q A B} (h1 : isQ ok1 w va p A) (h2 : isQ ok2 w vb q B) (hA0 : 0 < A) (hB0 : 0 < B) (hA : A ≤ 400000000) (hB : B ≤ 400000000) (hne : q ≠ 0) : Calls Tryz.prog 110 #[va, vb] w fun e w' =>
    ∃ n A l c m D l2 c2, e = .returned (.tuple #[.agg #[.bool n, .slice A l c, .bool m, .slice D l2 c2], .int .i64 0]) ∧ Below w.heap.size w w' ∧ isQc (fresh w) w' (.agg #[.bool n, .slice A l c, .bool m, .slice D l2 c2]) (p / q) := by
  obtain ⟨n1, A1, l1, c1, m1, D1, e1, g1, rfl⟩ := h1.shape
  obtain ⟨n2, A2, l2, c2, m2, D2, e2, g2, rfl⟩ := h2.shape
  obtain ⟨z0, z1, z2, z3, z4⟩ := z3 w.heap.size
  have hs : Hid (qs q ≠ 0) := by unfold Hid; rw [Ne, qs_zero]; exact hne
  go_enter Tryz.func110, Tryz.ntmps110
  go_wp2_with (first
    | (go_at_call 51; (with_reducible refine Calls.mono (sign_q (h2.below (bal (bal (bal (b0 _))))) hB0 hB) ?_); rintro e w0 ⟨rfl, hb0⟩; generalize qs q = sq at *; have hsq : (sq == 0) = false := (by simpa using hs.out); have Q0 := bthen (bal (bal (bal (b0 _)))) hb0; have B0 := Bx.step (Bx.refl (n := w.heap.size + 3) (((w.alloc (Obj.cells #[Value.bool n1, .slice A1 l1 c1, .bool m1, .slice D1 e1 g1] 44)).alloc (Obj.cells #[Value.bool n2, .slice A2 l2 c2, .bool m2, .slice D2 e2 g2] 44)).alloc (Obj.cells #[Value.bool false, .slice none 0 0, .bool false, .slice none 0 0] 44)) (by simp)) hb0; have k0 := B0.cell; have f0 := B0.frozen)
    | (go_at_call 89; (with_reducible refine Calls.mono (does_div (h1.below Q0) (h2.below Q0) hA0 hB0 hA hB hne) ?_); rintro e w1 ⟨n3, A3, l3, c3, m3, D3, e3, g3, rfl, hb1, hr⟩; have B1 := Bx.step B0 hb1; have k1 := B1.cell; have f1 := B1.frozen))
  refine bodyPost_ret (v := .tuple #[.agg #[.bool n3, .slice A3 l3 c3, .bool m3, .slice D3 e3 g3], .int .i64 0]) ?_ rfl ?_
  · simp [results, Tryz.results110, go_sem, k1]
  · obtain ⟨n, A, l, c, m, D, l2, c2, e, b, r⟩ := RetQ.set4 (b := w.heap.size + 1 + 1) (bthen Q0 hb1) hr (by omega) (by have := B0.s; omega)
    injection e with e
    obtain ⟨e1, e2, e3, e4⟩ := agg4 e
    injection e1 with e1; injection e2 with e2 e5 e6; injection e3 with e3; injection e4 with e4 e7 e8
    subst e1 e2 e3 e4 e5 e6 e7 e8
    exact ⟨_, _, _, _, _, _, _, _, rfl, b, r⟩
end Go.Proofs.YtdkfdamihnieiaaGreat
end
