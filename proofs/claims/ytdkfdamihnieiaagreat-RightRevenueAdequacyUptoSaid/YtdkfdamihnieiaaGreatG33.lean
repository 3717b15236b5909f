/- What comes in: integers, lines, rights, rationals, read out of the arguments. -/
import Derived.Test.YtdkfdamihnieiaaGreatG32
import Derived.Test.YtdkfdamihnieiaaGreatRows
import Derived.ProofKit
import Derived.OpenShut
import Derived.JoinedCond
import Derived.Deep.Slices
import Derived.Carry
import Derived.Test.YtdkfdamihnieiaaGreatG30
set_option linter.unusedSimpArgs false
set_option linter.unusedVariables false
section
open Go Go.RowKit Go.Shelf
namespace Go.Proofs.YtdkfdamihnieiaaGreat
open Go.Proofs
theorem bulk1 {H : Type} (d : DataW H) : 1 ≤ Rows.uptoBulk d := by
  cases d with
  | lit l => cases l <;> simp [Rows.uptoBulk]
  | nil => simp [Rows.uptoBulk]
  | ptr d => simp [Rows.uptoBulk]
  | slice elems spare => simp [Rows.uptoBulk]
  | agg parts => simp [Rows.uptoBulk]
  | iface t d => simp [Rows.uptoBulk]
  | map entries => simp [Rows.uptoBulk]
  | held h => simp [Rows.uptoBulk]
theorem bulk_part {H : Type} {d : DataW H} {l : List (DataW H)} (h : d ∈ l) : Rows.uptoBulk d ≤ Rows.uptoBulkAll l := by
  induction l with
  | nil => cases h
  | cons x r ih =>
    simp only [Rows.uptoBulkAll]
    cases List.mem_cons.1 h with
    | inl e => subst e; omega
    | inr e => have := ih e; omega
theorem bulk_len {H : Type} (l : List (DataW H)) : l.length ≤ Rows.uptoBulkAll l := by
  induction l with
  | nil => simp [Rows.uptoBulkAll]
  | cons x r ih => have := bulk1 x; simp only [Rows.uptoBulkAll, List.length_cons]; omega
section
variable {H : Type} {enc : TypeId × Value → H} {w : World} {base : Nat} {spare : Nat → Bool} {held : Bool}
/-- A slice, its elements' cells. -/
theorem open_sl {t e : TypeId} {fuel s K : Nat} {cs : List Value} {x : DataW H × List MemPlace} (ht : Tryz.prog.underlying t = some (.slice e)) (hs : Tryz.prog.cellsOf e = s) (h0 : 0 < s) (h : DataW.trod enc Tryz.prog w base spare held fuel t cs = some x) (hK : Rows.uptoBulk x.1 ≤ K) :
    ∃ (A : Option Addr) (len cap : Nat), cs = [.slice A len cap] ∧ len ≤ cap ∧ cap ≤ maxLen ∧ len ≤ K ∧ (0 < len → ∃ b o n, A = some ⟨b, o, none⟩ ∧ ∀ i, i < len → ∃ (cc : List Value) (y : DataW H × List MemPlace), cc.length = s ∧ (∀ j, j < s → w.cell? ⟨b, o + i * s + j, none⟩ = cc[j]?) ∧ DataW.trod enc Tryz.prog w base spare held n e cc = some y ∧ Rows.uptoBulk y.1 ≤ K) := by
  rcases Deep.open_slice ht h with ⟨rfl, rfl⟩ | ⟨a, len, cap, m, n, D, Pl, rfl, hb, hl, hm, hmm, hx, hi⟩
  · exact ⟨none, 0, 0, rfl, Nat.le_refl _, by unfold maxLen; omega, by omega, fun h => by omega⟩
  · have hlm : len ≤ m := by rw [hmm]; split <;> omega
    subst hx
    simp only [Rows.uptoBulk] at hK
    have h1 := bulk_len ((List.range len).map D)
    rw [List.length_map, List.length_range] at h1
    refine ⟨some a, len, cap, rfl, hl, hm, by omega, fun hp => ?_⟩
    obtain ⟨b, off, spot⟩ := a
    have hspot : spot = none := by
      obtain ⟨cs', hc, _⟩ := hi 0 (by omega)
      rw [hs] at hc
      obtain ⟨_, hlen, hcell⟩ := World.cells?_some hc
      have g0 := hcell 0 h0
      obtain ⟨c0, hc0⟩ : ∃ c0, cs'[0]? = some c0 := by
        cases cs' with
        | nil => simp at hlen; omega
        | cons c _ => exact ⟨c, rfl⟩
      rw [hc0] at g0
      simpa [Addr.add] using World.cell?_spot g0
    subst hspot
    refine ⟨b, off, n, rfl, fun i hil => ?_⟩
    obtain ⟨cs', hc, ht'⟩ := hi i (by omega)
    rw [hs] at hc
    obtain ⟨_, hlen, hcell⟩ := World.cells?_some hc
    refine ⟨cs', _, hlen, fun j hj => ?_, ht', ?_⟩
    · have h9 := hcell j hj
      rw [Deep.add_add, WideShapes.add_plain, ← Nat.add_assoc] at h9
      exact h9
    · have := bulk_part (d := D i) (l := (List.range len).map D) (List.mem_map_of_mem (List.mem_range.2 hil))
      simp only; omega
theorem wf_i64' {n : Int} (h : (Lit.int .i64 n).wf = true) : -9223372036854775808 ≤ n ∧ n ≤ 9223372036854775807 := bounds_i64 h
theorem wf_u32 {n : Int} (h : (Lit.int .u32 n).wf = true) : 0 ≤ n ∧ n ≤ 4294967295 := bounds_u32 h
/-- Integers that come in. -/
theorem open_vi {t e : TypeId} {fuel K : Nat} {cs : List Value} {x : DataW H × List MemPlace} (ht : Tryz.prog.underlying t = some (.slice e)) (he : Tryz.prog.underlying e = some (.int .i64)) (hs : Tryz.prog.cellsOf e = 1) (h : DataW.trod enc Tryz.prog w base spare held fuel t cs = some x) (hK : Rows.uptoBulk x.1 ≤ K) :
    ∃ (v : Value) (xs : List Int), cs = [v] ∧ Vi w v xs ∧ xs.length ≤ K ∧ ∀ z ∈ xs, -9223372036854775808 ≤ z ∧ z ≤ 9223372036854775807 := by
  obtain ⟨A, len, cap, rfl, hl, hm, hlK, hc⟩ := open_sl ht hs (by omega) h hK
  by_cases h0 : 0 < len
  · obtain ⟨b, o, n, rfl, hi⟩ := hc h0
    have key : ∀ i, ∃ z : Int, i < len → w.cell? ⟨b, o + i, none⟩ = some (.int .i64 z) ∧ -9223372036854775808 ≤ z ∧ z ≤ 9223372036854775807 := by
      intro i
      by_cases hil : i < len
      · obtain ⟨cc, y, hcl, hcc, hty, _⟩ := hi i hil
        obtain ⟨z, rfl, _, hw⟩ := DataW.trod_int he hty
        refine ⟨z, fun _ => ⟨?_, wf_i64' hw⟩⟩
        have := hcc 0 (by omega)
        simpa using this
      · exact ⟨0, fun h => absurd h hil⟩
    refine ⟨_, (List.range len).map fun i => Classical.choose (key i), rfl, ⟨_, cap, by simp, by simpa using hl, hm, fun _ => ⟨b, o, rfl, fun j hj => ?_⟩⟩, by simpa using hlK, fun z hz => ?_⟩
    · have hjl : j < len := by simpa [i64s] using hj
      rw [(Classical.choose_spec (key j) hjl).1]
      simp [i64s, hjl]
    · obtain ⟨i, hir, rfl⟩ := List.mem_map.1 hz
      exact (Classical.choose_spec (key i) (List.mem_range.1 hir)).2
  · obtain rfl : len = 0 := by omega
    exact ⟨_, [], rfl, Vi.nil hm, by simp, fun z hz => by cases hz⟩
theorem four_of {α : Type} {l : List α} (h : l.length = 4) : ∃ a b c d, l = [a, b, c, d] := by
  match l, h with
  | [a, b, c, d], _ => exact ⟨a, b, c, d, rfl⟩
theorem three_of {α : Type} {l : List α} (h : l.length = 3) : ∃ a b c, l = [a, b, c] := by
  match l, h with
  | [a, b, c], _ => exact ⟨a, b, c, rfl⟩
theorem two_of {α : Type} {l : List α} (h : l.length = 2) : ∃ a b, l = [a, b] := by
  match l, h with
  | [a, b], _ => exact ⟨a, b, rfl⟩
theorem cellsOf3 : Tryz.prog.cellsOf 3 = 1 := by kernel_rfl
theorem cellsOf2 : Tryz.prog.cellsOf 2 = 1 := by kernel_rfl
theorem cellsOf4 : Tryz.prog.cellsOf 4 = 1 := by kernel_rfl
theorem cellsOf22 : Tryz.prog.cellsOf 22 = 1 := by kernel_rfl
theorem cellsOf40 : Tryz.prog.cellsOf 40 = 1 := by kernel_rfl
theorem cellsOf42 : Tryz.prog.cellsOf 42 = 2 := by kernel_rfl
theorem cellsOf44 : Tryz.prog.cellsOf 44 = 4 := by kernel_rfl
theorem cellsOf68 : Tryz.prog.cellsOf 68 = 4 := by kernel_rfl
theorem cellsOf92 : Tryz.prog.cellsOf 92 = 3 := by kernel_rfl
theorem cellsOf94 : Tryz.prog.cellsOf 94 = 1 := by kernel_rfl
theorem cellsOf24 : Tryz.prog.cellsOf 24 = 2 := by kernel_rfl
/-- A slice of structs as a list's cells. -/
theorem sl_of {n s cap b o : Nat} {cs : List Value} (hs : 0 < s) (hl : cs.length = n * s) (hc1 : n ≤ cap) (hc2 : cap ≤ maxLen) (h : ∀ i, i < n → ∀ j, j < s → w.cell? ⟨b, o + i * s + j, none⟩ = cs[i * s + j]?) : Sl w (.slice (some ⟨b, o, none⟩) n cap) n cs := by
  refine ⟨_, cap, rfl, hc1, hc2, fun _ => ⟨b, o, rfl, fun j hj => ?_⟩⟩
  have hi : j / s < n := by rw [hl] at hj; exact (Nat.div_lt_iff_lt_mul hs).2 hj
  have hm := h (j / s) hi (j % s) (Nat.mod_lt _ hs)
  have e : j / s * s + j % s = j := by rw [Nat.mul_comm]; exact Nat.div_add_mod j s
  rw [Nat.add_assoc, e] at hm
  exact hm
/-- Lines that come in. -/
theorem open_vl {fuel K : Nat} {cs : List Value} {x : DataW H × List MemPlace} (h : DataW.trod enc Tryz.prog w base spare held fuel 22 cs = some x) (hK : Rows.uptoBulk x.1 ≤ K) : ∃ (v : Value) (ls : List Ln), cs = [v] ∧ Vl w v ls ∧ ls.length ≤ K := by
  obtain ⟨A, len, cap, rfl, hl, hm, hlK, hc⟩ := open_sl Tryz.underlying22 cellsOf68 (by omega) h hK
  by_cases h0 : 0 < len
  · obtain ⟨b, o, n, rfl, hi⟩ := hc h0
    have key : ∀ i, ∃ l : Ln, i < len → ∀ j, j < 4 → w.cell? ⟨b, o + i * 4 + j, none⟩ = l.cs[j]? := by
      intro i
      by_cases hil : i < len
      · obtain ⟨cc, y, hcl, hcc, hty, _⟩ := hi i hil
        obtain ⟨c0, c1, c2, c3, rfl⟩ := four_of hcl
        obtain ⟨xs, n', _, _, _, _, hf⟩ := DataW.trod_struct Tryz.underlying68 hty
        have f0 := hf 0 _ rfl
        have f1 := hf 1 _ rfl
        have f2 := hf 2 _ rfl
        have f3 := hf 3 _ rfl
        simp [cellsOf3, cellsOf2] at f0 f1 f2 f3
        obtain ⟨x0, x1, x2, x3, rfl⟩ := four_of (show xs.length = 4 by assumption)
        obtain ⟨z0, e0, _, _⟩ := DataW.trod_int Tryz.underlying3 f0
        obtain ⟨z1, e1, _, _⟩ := DataW.trod_int Tryz.underlying3 f1
        obtain ⟨z2, e2, _, _⟩ := DataW.trod_int Tryz.underlying2 f2
        obtain ⟨z3, e3, _, _⟩ := DataW.trod_int Tryz.underlying2 f3
        simp at e0 e1 e2 e3
        subst e0 e1 e2 e3
        exact ⟨⟨z0, z1, z2, z3⟩, fun _ => hcc⟩
      · exact ⟨Ln.zero, fun h => absurd h hil⟩
    have hlen : ((List.range len).map fun i => Classical.choose (key i)).length = len := by simp
    refine ⟨_, (List.range len).map fun i => Classical.choose (key i), rfl, ?_, by omega⟩
    unfold Vl
    rw [hlen]
    refine sl_of (s := 4) (by omega) (by rw [lcs_length, hlen]) hl hm (fun i hil j hj => ?_)
    rw [lcs_get _ i j (by rw [hlen]; exact hil) hj, (Classical.choose_spec (key i) hil) j hj]
    rw [List.getD_eq_getElem?_getD, List.getElem?_map, List.getElem?_range hil]; rfl
  · obtain rfl : len = 0 := by omega
    exact ⟨_, [], rfl, Sl.nil hm, by simp⟩
/-- Rights that come in. -/
theorem open_vr {fuel K : Nat} {cs : List Value} {x : DataW H × List MemPlace} (h : DataW.trod enc Tryz.prog w base spare held fuel 50 cs = some x) (hK : Rows.uptoBulk x.1 ≤ K) : ∃ (v : Value) (rs : List Rt), cs = [v] ∧ Vr w v rs ∧ rs.length ≤ K ∧ ∀ r ∈ rs, -9223372036854775808 ≤ r.q ∧ r.q ≤ 9223372036854775807 := by
  obtain ⟨A, len, cap, rfl, hl, hm, hlK, hc⟩ := open_sl Tryz.underlying50 cellsOf92 (by omega) h hK
  by_cases h0 : 0 < len
  · obtain ⟨b, o, n, rfl, hi⟩ := hc h0
    have key : ∀ i, ∃ l : Rt, i < len → (∀ j, j < 3 → w.cell? ⟨b, o + i * 3 + j, none⟩ = l.cs[j]?) ∧ -9223372036854775808 ≤ l.q ∧ l.q ≤ 9223372036854775807 := by
      intro i
      by_cases hil : i < len
      · obtain ⟨cc, y, hcl, hcc, hty, _⟩ := hi i hil
        obtain ⟨c0, c1, c2, rfl⟩ := three_of hcl
        obtain ⟨xs, n', _, _, _, _, hf⟩ := DataW.trod_struct Tryz.underlying92 hty
        have f0 := hf 0 _ rfl
        have f1 := hf 1 _ rfl
        have f2 := hf 2 _ rfl
        simp [cellsOf3, cellsOf2] at f0 f1 f2
        obtain ⟨x0, x1, x2, rfl⟩ := three_of (show xs.length = 3 by assumption)
        obtain ⟨z0, e0, _, _⟩ := DataW.trod_int Tryz.underlying3 f0
        obtain ⟨z1, e1, _, _⟩ := DataW.trod_int Tryz.underlying3 f1
        obtain ⟨z2, e2, _, hw⟩ := DataW.trod_int Tryz.underlying2 f2
        simp at e0 e1 e2
        subst e0 e1 e2
        exact ⟨⟨z0, z1, z2⟩, fun _ => ⟨hcc, wf_i64' hw⟩⟩
      · exact ⟨Rt.zero, fun h => absurd h hil⟩
    have hlen : ((List.range len).map fun i => Classical.choose (key i)).length = len := by simp
    refine ⟨_, (List.range len).map fun i => Classical.choose (key i), rfl, ?_, by omega, fun r hr => ?_⟩
    · unfold Vr
      rw [hlen]
      refine sl_of (s := 3) (by omega) (by rw [rcs_length, hlen]) hl hm (fun i hil j hj => ?_)
      rw [rcs_get _ i j (by rw [hlen]; exact hil) hj, (Classical.choose_spec (key i) hil).1 j hj]
      rw [List.getD_eq_getElem?_getD, List.getElem?_map, List.getElem?_range hil]; rfl
    · obtain ⟨i, hir, rfl⟩ := List.mem_map.1 hr
      exact (Classical.choose_spec (key i) (List.mem_range.1 hir)).2
  · obtain rfl : len = 0 := by omega
    exact ⟨_, [], rfl, Sl.nil hm, by simp, fun r hr => by cases hr⟩
/-- Words that come in. -/
theorem open_wd {fuel K : Nat} {cs : List Value} {x : DataW H × List MemPlace} (h : DataW.trod enc Tryz.prog w base spare held fuel 40 cs = some x) (hK : Rows.uptoBulk x.1 ≤ K) : ∃ (v : Value) (ws : List Nat), cs = [v] ∧ Wd (fun _ => True) w v ws ∧ ws.length ≤ K := by
  obtain ⟨A, len, cap, rfl, hl, hm, hlK, hc⟩ := open_sl Tryz.underlying40 cellsOf94 (by omega) h hK
  by_cases h0 : 0 < len
  · obtain ⟨b, o, n, rfl, hi⟩ := hc h0
    have key : ∀ i, ∃ z : Nat, i < len → w.cell? ⟨b, o + i, none⟩ = some (.int .u32 (z : Int)) ∧ z < 4294967296 := by
      intro i
      by_cases hil : i < len
      · obtain ⟨cc, y, hcl, hcc, hty, _⟩ := hi i hil
        obtain ⟨z, rfl, _, hw⟩ := DataW.trod_int Tryz.underlying94 hty
        have hz := wf_u32 hw
        refine ⟨z.toNat, fun _ => ⟨?_, by omega⟩⟩
        have := hcc 0 (by omega)
        rw [Int.toNat_of_nonneg hz.1]
        simpa using this
      · exact ⟨0, fun h => absurd h hil⟩
    have hlen : ((List.range len).map fun i => Classical.choose (key i)).length = len := by simp
    refine ⟨_, (List.range len).map fun i => Classical.choose (key i), rfl, ⟨_, cap, by rw [hlen], by omega, hm, fun z hz => ?_, fun _ => ⟨b, o, rfl, trivial, fun j hj => ?_⟩⟩, by omega⟩
    · obtain ⟨i, hir, rfl⟩ := List.mem_map.1 hz
      exact (Classical.choose_spec (key i) (List.mem_range.1 hir)).2
    · have hjl : j < len := by omega
      rw [(Classical.choose_spec (key j) hjl).1]
      unfold wd
      rw [List.getD_eq_getElem?_getD, List.getElem?_map, List.getElem?_range hjl]; rfl
  · obtain rfl : len = 0 := by omega
    exact ⟨_, [], rfl, ⟨A, cap, rfl, Rd.nil hm⟩, by simp⟩
theorem open_z {fuel K : Nat} {c0 c1 : Value} {x : DataW H × List MemPlace} (h : DataW.trod enc Tryz.prog w base spare held fuel 42 [c0, c1] = some x) (hK : Rows.uptoBulk x.1 ≤ K) : ∃ (n : Bool) (z : Int), c0 = .bool n ∧ isZ (fun _ => True) w (.agg #[.bool n, c1]) z K := by
  obtain ⟨xs, n', _, rfl, _, hxl, hf⟩ := DataW.trod_struct Tryz.underlying42 h
  have f0 := hf 0 _ rfl
  have f1 := hf 1 _ rfl
  simp [cellsOf4, cellsOf40] at f0 f1
  obtain ⟨x0, x1, rfl⟩ := two_of (show xs.length = 2 from hxl)
  obtain ⟨n, e0, _⟩ := DataW.trod_bool Tryz.underlying4 f0
  simp only [Rows.uptoBulk, Rows.uptoBulkAll, List.map_cons, List.map_nil] at hK
  obtain ⟨v, ws, e1, hw, hl⟩ := open_wd (K := K) f1 (by omega)
  simp at e0 e1
  subst e0 e1
  exact ⟨n, _, rfl, n, c1, ws, rfl, hw, hl, rfl⟩
/-- Rationals that come in. -/
theorem open_vq {fuel K : Nat} {cs : List Value} {x : DataW H × List MemPlace} (h : DataW.trod enc Tryz.prog w base spare held fuel 26 cs = some x) (hK : Rows.uptoBulk x.1 ≤ K) : ∃ (v : Value) (qs : List Rat), cs = [v] ∧ Vq w.heap.size (rq K) w v qs ∧ qs.length ≤ K := by
  obtain ⟨A, len, cap, rfl, hl, hm, hlK, hc⟩ := open_sl Tryz.underlying26 cellsOf44 (by omega) h hK
  by_cases h0 : 0 < len
  · obtain ⟨b, o, n, rfl, hi⟩ := hc h0
    have key : ∀ i, ∃ (q : Rat), i < len → ∃ y : Qx, rq K w y.v q ∧ ∀ j, j < 4 → w.cell? ⟨b, o + i * 4 + j, none⟩ = y.cs[j]? := by
      intro i
      by_cases hil : i < len
      · obtain ⟨cc, y, hcl, hcc, hty, hyK⟩ := hi i hil
        obtain ⟨c0, c1, c2, c3, rfl⟩ := four_of hcl
        obtain ⟨xs, n', _, rfl, _, hxl, hf⟩ := DataW.trod_struct Tryz.underlying44 hty
        have f0 := hf 0 _ rfl
        have f1 := hf 1 _ rfl
        simp [cellsOf42] at f0 f1
        obtain ⟨x0, x1, rfl⟩ := two_of (show xs.length = 2 from hxl)
        simp only [Rows.uptoBulk, Rows.uptoBulkAll, List.map_cons, List.map_nil] at hyK
        obtain ⟨n1, z1, rfl, hz1⟩ := open_z (K := K) f0 (by omega)
        obtain ⟨n2, z2, rfl, hz2⟩ := open_z (K := K) f1 (by omega)
        exact ⟨qv z1 z2, fun _ => ⟨⟨n1, c1, n2, c3⟩, ⟨n1, c1, n2, c3, z1, z2, rfl, hz1, hz2, rfl⟩, hcc⟩⟩
      · exact ⟨0, fun h => absurd h hil⟩
    have hlen : ((List.range len).map fun i => Classical.choose (key i)).length = len := by simp
    have hblt : b < w.heap.size := by
      obtain ⟨y, _, hcs⟩ := Classical.choose_spec (key 0) h0
      have := hcs 0 (by omega)
      exact World.block_lt_of_cell? w ⟨b, _, none⟩ this
    refine ⟨_, (List.range len).map fun i => Classical.choose (key i), rfl, ⟨_, cap, by rw [hlen], by omega, hm, fun _ => ⟨b, o, rfl, .inl hblt, fun j hj => ?_⟩⟩, by omega⟩
    have hjl : j < len := by omega
    obtain ⟨y, hy, hcs⟩ := Classical.choose_spec (key j) hjl
    refine ⟨y, ?_, hcs⟩
    rw [List.getD_eq_getElem?_getD, List.getElem?_map, List.getElem?_range hjl]
    exact hy
  · obtain rfl : len = 0 := by omega
    exact ⟨_, [], rfl, Vq.nil hm, by simp⟩
end
end Go.Proofs.YtdkfdamihnieiaaGreat
end
section
/- pylonlaw33.Long. -/
open Go Go.RowKit Go.Shelf
namespace Go.Proofs.YtdkfdamihnieiaaGreat
open Go.Proofs
attribute [local go_sem] Oper.semAt_some wide_fn wide_depth
set_option maxRecDepth 100000 in
set_option maxHeartbeats 8000000 in
theorem long_c {n0 B : Nat} {w : World} {v : Value} {m : List (List Rat)} (h : Vm n0 (rq B) w v m) : Calls Tryz.prog 36 #[v] w fun e w' => (∃ b, e = .returned (.bool b)) ∧ Below w.heap.size w w' := by
  obtain ⟨A, l, c, rfl⟩ := h.shape
  obtain rfl := h.len
  have hm := h.lim
  have HM := Lib.hid h
  clear h
  go_enter Tryz.func36, Tryz.ntmps36
  go_wp2
  go_loopg [3, 4] m.length (fun gh cv iv wr => ∃ (i : Nat) (z : Int), gh = m.length - i ∧ i ≤ m.length ∧ iv = .int .i64 (i : Int) ∧ cv = .int .i64 z ∧ 0 ≤ z ∧ z ≤ 400 ∧ Below w.heap.size w wr)
  case atStart => exact ⟨0, 0, rfl, by omega, rfl, rfl, by omega, by omega, b0 _⟩
  case round =>
    obtain ⟨i, z, rfl, hi, rfl, rfl, hz0, hz1, hbl⟩ := hrel
    obtain ⟨wo, rfl⟩ : ∃ wo : World, wo = wr := ⟨_, rfl⟩
    by_cases hlt : i < m.length
    · obtain ⟨b, oo, Ar, cr, hA, hc, hv⟩ := (HM.out.below (rq_stable B) hbl).at hlt
      subst hA
      obtain ⟨row, hrow⟩ : ∃ row, row = m.getD i [] := ⟨_, rfl⟩
      rw [← hrow] at hc hv
      have HV := Lib.hid hv
      have HC := Lib.hid hc
      have hbb : b < wo.heap.size := World.block_lt_of_cell? wo _ hc
      have hrl : row.length ≤ 9223372036854775807 := by have h1 := hv.rv.cap; have h2 := hv.rv.lim; unfold maxLen at h2; omega
      have HBL := Lib.hid hbl
      clear hv hrow hbl
      by_cases hbig : 40 < row.length
      · have hbig2 : (row.length : Int) > 40 := by omega
        go_wp2
        go_ret
        exact ⟨⟨_, rfl⟩, HBL.out⟩
      · have hsm : row.length ≤ 40 := by omega
        have hbig3 : decide (40 < (row.length : Int)) = false := by simp; omega
        clear hbig
        go_wp2
        go_loopg [3, 5] row.length (fun gh cv iv wr => ∃ (k : Nat) (y : Int), gh = row.length - k ∧ k ≤ row.length ∧ iv = .int .i64 (k : Int) ∧ cv = .int .i64 y ∧ 0 ≤ y ∧ y ≤ 400 + 201 * (k : Int) ∧ Below wo.heap.size wo wr)
        case atStart => exact ⟨0, z, rfl, by omega, rfl, rfl, hz0, by omega, b0 _⟩
        case round =>
          obtain ⟨k, y, rfl, hk, rfl, rfl, hy0, hy1, hbk⟩ := hrel
          obtain ⟨wp, rfl⟩ : ∃ wp : World, wp = wr := ⟨_, rfl⟩
          have hcp := (hbk.cell (p := ⟨b, oo + i, none⟩) hbb).trans HC.out
          have hbb2 := Nat.lt_of_lt_of_le hbb hbk.size
          by_cases hkl : k < row.length
          · obtain ⟨bq, oq, nf, sf, mf, tf, hA2, hef, x0, x1, x2, x3⟩ := (HV.out.below (rq_stable B) hbk).elem (k := k) hkl
            subst hA2
            obtain ⟨n1, A1, l1, c1, m1, D1, e1, g1, hsh⟩ := isQ.shape hef
            obtain ⟨z1, z2, z3, z4⟩ : nf = n1 ∧ sf = .slice A1 l1 c1 ∧ mf = m1 ∧ tf = .slice D1 e1 g1 := by simpa using hsh
            subst z1 z2 z3 z4
            have hbq : bq < wp.heap.size := World.block_lt_of_cell? wp _ x0
            have HX := Lib.hid (show wp.cell? ⟨bq, oq + k * 4 + 1, none⟩ = some (.slice A1 l1 c1) ∧ wp.cell? ⟨bq, oq + k * 4 + 3, none⟩ = some (.slice D1 e1 g1) from ⟨x1, x3⟩)
            have HCP := Lib.hid hcp
            have HBK := Lib.hid hbk
            clear hef hsh x0 x1 x2 x3 hbk
            go_wp2
            refine (wpIn_wide (n := 10)).1 ?_
            refine wpIn_region_Y (by kernel_rfl) (by kernel_rfl) 26 1 rfl (by kernel_rfl) (fun u => { tmps := List.toArray ((Value.slice (some { block := b, off := oo }) m.length c) :: undef :: u2 :: (Value.int IntKind.i64 y) :: (Value.int IntKind.i64 ↑i) :: (Value.int IntKind.i64 ↑k) :: (Value.int IntKind.i64 ↑i) :: (Value.slice (some { block := b, off := oo }) m.length c) :: (Value.int IntKind.i64 ↑m.length) :: (Value.bool true) :: u10 :: u11 :: (Value.slice (some { block := b, off := oo }) m.length c) :: (Value.int IntKind.i64 ↑i) :: (Value.pointer (some { block := b, off := oo + i })) :: (Value.slice (some { block := bq, off := oq }) row.length cr) :: (Value.int IntKind.i64 ↑row.length) :: (Value.bool false) :: (Value.int IntKind.i64 ↑k) :: (Value.slice (some { block := b, off := oo }) m.length c) :: (Value.int IntKind.i64 ↑i) :: (Value.pointer (some { block := b, off := oo + i })) :: (Value.slice (some { block := bq, off := oq }) row.length cr) :: (Value.int IntKind.i64 ↑row.length) :: (Value.bool true) :: u25 :: u26 :: (u 0) :: (u 1) :: (u 2) :: (u 3) :: (u 4) :: (u 5) :: (u 6) :: (u 7) :: (u 8) :: (u 9) :: (u 10) :: (u 11) :: (u 12) :: (u 13) :: (u 14) :: (u 15) :: (u 16) :: (u 17) :: (u 18) :: (u 19) :: (u 20) :: (u 21) :: (u 22) :: (u 23) :: (u 24) :: (u 25) :: u53 :: u54 :: []), defers := [] }) (fun k => #[u27, u28, u29, u30, u31, u32, u33, u34, u35, u36, u37, u38, u39, u40, u41, u42, u43, u44, u45, u46, u47, u48, u49, u50, u51, u52].getD k undef) rfl (fun W1 W2 => Below W1.heap.size W1 W2) (fun _ => Below.refl _ _) (fun h1 h2 => bthen h1 h2)
              (fun j9 v W1 => match j9 with
                | 0 => v = Value.int .i64 y
                | 1 => v = Value.int .i64 (y + 1)
                | 2 => v = Value.slice (some ⟨b, oo, none⟩) m.length c
                | 3 => v = Value.int .i64 (i : Int)
                | 4 => v = Value.pointer (some ⟨b, oo + i, none⟩)
                | 5 => v = Value.slice (some ⟨bq, oq, none⟩) row.length cr
                | 6 => v = Value.int .i64 (k : Int)
                | 7 => v = Value.pointer (some ⟨bq, oq + k * 4, none⟩)
                | 8 => v = Value.pointer (some ⟨bq, oq + k * 4, none⟩)
                | 9 => v = Value.pointer (some ⟨bq, oq + k * 4 + 1, none⟩)
                | 10 => v = Value.slice A1 l1 c1
                | 11 => v = Value.int .i64 (l1 : Int)
                | 12 => ∃ z : Int, v = Value.int .i64 z ∧ 0 ≤ z ∧ z ≤ 100
                | 13 => ∃ z : Int, v = Value.int .i64 z ∧ y ≤ z ∧ z ≤ y + 101
                | 14 => v = Value.slice (some ⟨b, oo, none⟩) m.length c
                | 15 => v = Value.int .i64 (i : Int)
                | 16 => v = Value.pointer (some ⟨b, oo + i, none⟩)
                | 17 => v = Value.slice (some ⟨bq, oq, none⟩) row.length cr
                | 18 => v = Value.int .i64 (k : Int)
                | 19 => v = Value.pointer (some ⟨bq, oq + k * 4, none⟩)
                | 20 => v = Value.pointer (some ⟨bq, oq + k * 4 + 2, none⟩)
                | 21 => v = Value.pointer (some ⟨bq, oq + k * 4 + 2 + 1, none⟩)
                | 22 => v = Value.slice D1 e1 g1
                | 23 => v = Value.int .i64 (e1 : Int)
                | 24 => ∃ z : Int, v = Value.int .i64 z ∧ 0 ≤ z ∧ z ≤ 100
                | 25 => ∃ z : Int, v = Value.int .i64 z ∧ y ≤ z ∧ z ≤ y + 201
                | _ => True) ?hY ?step ?fin
            case hY =>
              intro k v W1 W2 h hb
              match k, h with
              | 0, h => exact h
              | 1, h => exact h
              | 2, h => exact h
              | 3, h => exact h
              | 4, h => exact h
              | 5, h => exact h
              | 6, h => exact h
              | 7, h => exact h
              | 8, h => exact h
              | 9, h => exact h
              | 10, h => exact h
              | 11, h => exact h
              | 12, h => exact h
              | 13, h => exact h
              | 14, h => exact h
              | 15, h => exact h
              | 16, h => exact h
              | 17, h => exact h
              | 18, h => exact h
              | 19, h => exact h
              | 20, h => exact h
              | 21, h => exact h
              | 22, h => exact h
              | 23, h => exact h
              | 24, h => exact h
              | 25, h => exact h
              | k + 26, h => trivial
            case step =>
              intro u W' j o hj ho hR hpre
              have hbw : Below wp.heap.size wp W' := bthen (bdr (b0 wp)) hR
              have hcq := (hbw.cell (p := ⟨b, oo + i, none⟩) hbb2).trans HCP.out
              have hx1 := (hbw.cell (p := ⟨bq, oq + k * 4 + 1, none⟩) hbq).trans HX.out.1
              have hx3 := (hbw.cell (p := ⟨bq, oq + k * 4 + 2 + 1, none⟩) hbq).trans HX.out.2
              obtain rfl | rfl | rfl | rfl | rfl | rfl | rfl | rfl | rfl | rfl | rfl | rfl | rfl | rfl | rfl | rfl | rfl | rfl | rfl | rfl | rfl | rfl | rfl | rfl | rfl | rfl : j = 0 ∨ j = 1 ∨ j = 2 ∨ j = 3 ∨ j = 4 ∨ j = 5 ∨ j = 6 ∨ j = 7 ∨ j = 8 ∨ j = 9 ∨ j = 10 ∨ j = 11 ∨ j = 12 ∨ j = 13 ∨ j = 14 ∨ j = 15 ∨ j = 16 ∨ j = 17 ∨ j = 18 ∨ j = 19 ∨ j = 20 ∨ j = 21 ∨ j = 22 ∨ j = 23 ∨ j = 24 ∨ j = 25 := by omega
              · simp at ho
                subst ho
                simp [Region.binds] at hpre
                refine wpOpIn_step rfl (fun K' hK => ?_)
                simp only [Region.wanted]
                have HK := Lib.hid hK
                clear hK
                gi_wp2
                exact HK.out _ _ ⟨Value.int .i64 y, by simp [upd, undef, *], Below.refl _ _, rfl⟩
              · simp at ho
                subst ho
                simp [Region.binds] at hpre
                have hwr : IntKind.i64.wrap (y + 1) = y + 1 := by rw [IntKind.wrap_i64]; omega
                refine wpOpIn_step rfl (fun K' hK => ?_)
                simp only [Region.wanted]
                have HK := Lib.hid hK
                clear hK
                gi_wp2
                refine HK.out _ _ ⟨Value.int .i64 (y + 1), by simp [upd, undef, Qx.v, Qx.zero, *], Below.refl _ _, rfl⟩
              · simp at ho
                subst ho
                simp [Region.binds] at hpre
                refine wpOpIn_step rfl (fun K' hK => ?_)
                simp only [Region.wanted]
                have HK := Lib.hid hK
                clear hK
                gi_wp2
                exact HK.out _ _ ⟨Value.slice (some ⟨b, oo, none⟩) m.length c, by simp [upd, undef, *], Below.refl _ _, rfl⟩
              · simp at ho
                subst ho
                simp [Region.binds] at hpre
                refine wpOpIn_step rfl (fun K' hK => ?_)
                simp only [Region.wanted]
                have HK := Lib.hid hK
                clear hK
                gi_wp2
                exact HK.out _ _ ⟨Value.int .i64 (i : Int), by simp [upd, undef, *], Below.refl _ _, rfl⟩
              · simp at ho
                subst ho
                simp [Region.binds] at hpre
                refine wpOpIn_step rfl (fun K' hK => ?_)
                simp only [Region.wanted]
                have HK := Lib.hid hK
                clear hK
                gi_wp2
                exact HK.out _ _ ⟨Value.pointer (some ⟨b, oo + i, none⟩), by simp [upd, undef, *], Below.refl _ _, rfl⟩
              · simp at ho
                subst ho
                simp [Region.binds] at hpre
                refine wpOpIn_step rfl (fun K' hK => ?_)
                simp only [Region.wanted]
                have HK := Lib.hid hK
                clear hK
                gi_wp2
                exact HK.out _ _ ⟨Value.slice (some ⟨bq, oq, none⟩) row.length cr, by simp [upd, undef, *], Below.refl _ _, rfl⟩
              · simp at ho
                subst ho
                simp [Region.binds] at hpre
                refine wpOpIn_step rfl (fun K' hK => ?_)
                simp only [Region.wanted]
                have HK := Lib.hid hK
                clear hK
                gi_wp2
                exact HK.out _ _ ⟨Value.int .i64 (k : Int), by simp [upd, undef, *], Below.refl _ _, rfl⟩
              · simp at ho
                subst ho
                simp [Region.binds] at hpre
                refine wpOpIn_step rfl (fun K' hK => ?_)
                simp only [Region.wanted]
                have HK := Lib.hid hK
                clear hK
                gi_wp2
                exact HK.out _ _ ⟨Value.pointer (some ⟨bq, oq + k * 4, none⟩), by simp [upd, undef, *], Below.refl _ _, rfl⟩
              · simp at ho
                subst ho
                simp [Region.binds] at hpre
                refine wpOpIn_step rfl (fun K' hK => ?_)
                simp only [Region.wanted]
                have HK := Lib.hid hK
                clear hK
                gi_wp2
                exact HK.out _ _ ⟨Value.pointer (some ⟨bq, oq + k * 4, none⟩), by simp [upd, undef, *], Below.refl _ _, rfl⟩
              · simp at ho
                subst ho
                simp [Region.binds] at hpre
                refine wpOpIn_step rfl (fun K' hK => ?_)
                simp only [Region.wanted]
                have HK := Lib.hid hK
                clear hK
                gi_wp2
                exact HK.out _ _ ⟨Value.pointer (some ⟨bq, oq + k * 4 + 1, none⟩), by simp [upd, undef, *], Below.refl _ _, rfl⟩
              · simp at ho
                subst ho
                simp [Region.binds] at hpre
                refine wpOpIn_step rfl (fun K' hK => ?_)
                simp only [Region.wanted]
                have HK := Lib.hid hK
                clear hK
                gi_wp2
                exact HK.out _ _ ⟨Value.slice A1 l1 c1, by simp [upd, undef, *], Below.refl _ _, rfl⟩
              · simp at ho
                subst ho
                simp [Region.binds] at hpre
                refine wpOpIn_step rfl (fun K' hK => ?_)
                simp only [Region.wanted]
                have HK := Lib.hid hK
                clear hK
                gi_wp2
                exact HK.out _ _ ⟨Value.int .i64 (l1 : Int), by simp [upd, undef, *], Below.refl _ _, rfl⟩
              · simp at ho
                subst ho
                simp [Region.binds] at hpre
                refine wpOpIn_step rfl (fun K' hK => ?_)
                simp only [Region.wanted]
                have HK := Lib.hid hK
                clear hK
                gi_wp2
                all_goals first | exact HK.out _ _ ⟨Value.int .i64 (l1 : Int), by simp [upd, undef, *], Below.refl _ _, ⟨_, rfl, by omega, by omega⟩⟩ | exact HK.out _ _ ⟨Value.int .i64 100, by simp [upd, undef, *], Below.refl _ _, ⟨_, rfl, by omega, by omega⟩⟩
              · simp at ho
                subst ho
                simp [Region.binds] at hpre
                obtain ⟨q1, z1, q2, z2, z3⟩ := hpre
                have hwr : IntKind.i64.wrap (y + 1 + z1) = y + 1 + z1 := by rw [IntKind.wrap_i64]; omega
                refine wpOpIn_step rfl (fun K' hK => ?_)
                simp only [Region.wanted]
                have HK := Lib.hid hK
                clear hK
                gi_wp2
                refine HK.out _ _ ⟨Value.int .i64 (y + 1 + z1), by simp [upd, undef, Qx.v, Qx.zero, *], Below.refl _ _, ⟨_, rfl, by omega, by omega⟩⟩
              · simp at ho
                subst ho
                simp [Region.binds] at hpre
                refine wpOpIn_step rfl (fun K' hK => ?_)
                simp only [Region.wanted]
                have HK := Lib.hid hK
                clear hK
                gi_wp2
                exact HK.out _ _ ⟨Value.slice (some ⟨b, oo, none⟩) m.length c, by simp [upd, undef, *], Below.refl _ _, rfl⟩
              · simp at ho
                subst ho
                simp [Region.binds] at hpre
                refine wpOpIn_step rfl (fun K' hK => ?_)
                simp only [Region.wanted]
                have HK := Lib.hid hK
                clear hK
                gi_wp2
                exact HK.out _ _ ⟨Value.int .i64 (i : Int), by simp [upd, undef, *], Below.refl _ _, rfl⟩
              · simp at ho
                subst ho
                simp [Region.binds] at hpre
                refine wpOpIn_step rfl (fun K' hK => ?_)
                simp only [Region.wanted]
                have HK := Lib.hid hK
                clear hK
                gi_wp2
                exact HK.out _ _ ⟨Value.pointer (some ⟨b, oo + i, none⟩), by simp [upd, undef, *], Below.refl _ _, rfl⟩
              · simp at ho
                subst ho
                simp [Region.binds] at hpre
                refine wpOpIn_step rfl (fun K' hK => ?_)
                simp only [Region.wanted]
                have HK := Lib.hid hK
                clear hK
                gi_wp2
                exact HK.out _ _ ⟨Value.slice (some ⟨bq, oq, none⟩) row.length cr, by simp [upd, undef, *], Below.refl _ _, rfl⟩
              · simp at ho
                subst ho
                simp [Region.binds] at hpre
                refine wpOpIn_step rfl (fun K' hK => ?_)
                simp only [Region.wanted]
                have HK := Lib.hid hK
                clear hK
                gi_wp2
                exact HK.out _ _ ⟨Value.int .i64 (k : Int), by simp [upd, undef, *], Below.refl _ _, rfl⟩
              · simp at ho
                subst ho
                simp [Region.binds] at hpre
                refine wpOpIn_step rfl (fun K' hK => ?_)
                simp only [Region.wanted]
                have HK := Lib.hid hK
                clear hK
                gi_wp2
                exact HK.out _ _ ⟨Value.pointer (some ⟨bq, oq + k * 4, none⟩), by simp [upd, undef, *], Below.refl _ _, rfl⟩
              · simp at ho
                subst ho
                simp [Region.binds] at hpre
                refine wpOpIn_step rfl (fun K' hK => ?_)
                simp only [Region.wanted]
                have HK := Lib.hid hK
                clear hK
                gi_wp2
                exact HK.out _ _ ⟨Value.pointer (some ⟨bq, oq + k * 4 + 2, none⟩), by simp [upd, undef, *], Below.refl _ _, rfl⟩
              · simp at ho
                subst ho
                simp [Region.binds] at hpre
                refine wpOpIn_step rfl (fun K' hK => ?_)
                simp only [Region.wanted]
                have HK := Lib.hid hK
                clear hK
                gi_wp2
                exact HK.out _ _ ⟨Value.pointer (some ⟨bq, oq + k * 4 + 2 + 1, none⟩), by simp [upd, undef, *], Below.refl _ _, rfl⟩
              · simp at ho
                subst ho
                simp [Region.binds] at hpre
                refine wpOpIn_step rfl (fun K' hK => ?_)
                simp only [Region.wanted]
                have HK := Lib.hid hK
                clear hK
                gi_wp2
                exact HK.out _ _ ⟨Value.slice D1 e1 g1, by simp [upd, undef, *], Below.refl _ _, rfl⟩
              · simp at ho
                subst ho
                simp [Region.binds] at hpre
                refine wpOpIn_step rfl (fun K' hK => ?_)
                simp only [Region.wanted]
                have HK := Lib.hid hK
                clear hK
                gi_wp2
                exact HK.out _ _ ⟨Value.int .i64 (e1 : Int), by simp [upd, undef, *], Below.refl _ _, rfl⟩
              · simp at ho
                subst ho
                simp [Region.binds] at hpre
                refine wpOpIn_step rfl (fun K' hK => ?_)
                simp only [Region.wanted]
                have HK := Lib.hid hK
                clear hK
                gi_wp2
                all_goals first | exact HK.out _ _ ⟨Value.int .i64 (e1 : Int), by simp [upd, undef, *], Below.refl _ _, ⟨_, rfl, by omega, by omega⟩⟩ | exact HK.out _ _ ⟨Value.int .i64 100, by simp [upd, undef, *], Below.refl _ _, ⟨_, rfl, by omega, by omega⟩⟩
              · simp at ho
                subst ho
                simp [Region.binds] at hpre
                obtain ⟨⟨z0, q1, z4, z5⟩, z1, q2, z2, z3⟩ := hpre
                have hwr : IntKind.i64.wrap (z0 + z1) = z0 + z1 := by rw [IntKind.wrap_i64]; omega
                refine wpOpIn_step rfl (fun K' hK => ?_)
                simp only [Region.wanted]
                have HK := Lib.hid hK
                clear hK
                gi_wp2
                refine HK.out _ _ ⟨Value.int .i64 (z0 + z1), by simp [upd, undef, Qx.v, Qx.zero, *], Below.refl _ _, ⟨_, rfl, by omega, by omega⟩⟩
            case fin =>
              intro u W' hR hY
              have hbw : Below wp.heap.size wp W' := bthen (bdr (b0 wp)) hR
              obtain ⟨z9, g25, z91, z92⟩ := hY 25 (by omega)
              have HBW := Lib.hid (bthen HBK.out hbw)
              clear hY hR hbw
              refine wpTail_step (i' := 27) (c := 0) rfl ?_
              rw [g25]
              refine wpOpIn_step rfl (fun K' hK => ?_)
              simp only [Region.wanted, List.getElem_toArray, List.getElem_cons_succ, List.getElem_cons_zero]
              have HK := Lib.hid hK
              clear hK
              gi_wp2
              refine HK.out _ _ (wpTail_end ?_)
              clear HK
              go_wp2
              go_roundg (row.length - (k + 1))
              case rel => exact ⟨k + 1, z9, rfl, by omega, val_int (by omega), rfl, by omega, by omega, HBW.out⟩
              case measure => omega
          · obtain rfl : k = row.length := by omega
            go_wp2
            · go_ret
              exact ⟨⟨_, rfl⟩, bthen HBL.out hbk⟩
            · have hle : y ≤ 400 := by assumption
              go_roundg (m.length - (i + 1))
              case rel => exact ⟨i + 1, y, rfl, by omega, val_int (by omega), rfl, by omega, by omega, bthen HBL.out hbk⟩
              case measure => omega
    · obtain rfl : i = m.length := by omega
      go_wp2
      go_ret
      exact ⟨⟨_, rfl⟩, hbl⟩
end Go.Proofs.YtdkfdamihnieiaaGreat
end
section
/- The plain law of RightTotal: the payments' sum is the rent of the injections. -/
open Go Go.RowKit Go.Shelf
namespace Go.Proofs.YtdkfdamihnieiaaGreat
open Go.Proofs
theorem dotL_succ (f : Nat → Rat) (n : Nat) : dotL f (List.range (n + 1)) = dotL f (List.range n) + f n := by
  unfold dotL; rw [List.range_succ, List.map_append, List.foldl_append]; rfl
theorem dotL_congr {f g : Nat → Rat} {n : Nat} (h : ∀ k, k < n → f k = g k) : dotL f (List.range n) = dotL g (List.range n) := by
  induction n with
  | zero => rfl
  | succ n ih => rw [dotL_succ, dotL_succ, ih (fun k hk => h k (by omega)), h n (by omega)]
/-- One term turned. -/
theorem dotL_turn {f g : Nat → Rat} {z : Nat} {d : Rat} (hz : g z = f z + d) (hne : ∀ k, k ≠ z → g k = f k) (n : Nat) : dotL g (List.range n) = dotL f (List.range n) + if z < n then d else 0 := by
  induction n with
  | zero => unfold dotL; simp; grind
  | succ n ih =>
    rw [dotL_succ, dotL_succ, ih]
    by_cases h : z = n
    · subst h
      rw [hz, if_neg (by omega), if_pos (by omega)]; grind
    · rw [hne n (fun e => h e.symm)]
      by_cases h2 : z < n
      · rw [if_pos h2, if_pos (by omega)]; grind
      · rw [if_neg h2, if_neg (by omega)]; grind
theorem dotq_put {ps qs : List Rat} {z : Int} {r : Rat} (hl : qs.length = ps.length) (h0 : 0 ≤ z) (h1 : z < ps.length) : dotq ps (putq qs z r) = dotq ps qs + ps.getD z.toNat 0 * r := by
  unfold dotq
  rw [putq_length, hl]
  have e : putq qs z r = qs.set z.toNat (qs.getD z.toNat 0 + r) := by unfold putq; rw [if_pos ⟨h0, by omega⟩]
  rw [e, dotL_turn (f := fun k => ps.getD k 0 * qs.getD k 0) (z := z.toNat) (d := ps.getD z.toNat 0 * r)]
  · rw [if_pos (by omega)]
  · show ps.getD z.toNat 0 * (qs.set z.toNat _).getD z.toNat 0 = _
    rw [getD_set, if_pos ⟨rfl, by omega⟩]; grind
  · intro k hk
    show ps.getD k 0 * (qs.set z.toNat _).getD k 0 = _
    rw [getD_set, if_neg (fun h => hk h.1.symm)]
theorem dotq_zero (ps : List Rat) : dotq ps (List.replicate ps.length 0) = 0 := by
  unfold dotq
  have : ∀ n, dotL (fun k => ps.getD k 0 * (List.replicate ps.length (0 : Rat)).getD k 0) (List.range n) = 0 := by
    intro n
    induction n with
    | zero => rfl
    | succ n ih =>
      rw [dotL_succ, ih]
      have : (List.replicate ps.length (0 : Rat)).getD n 0 = 0 := by
        rw [List.getD_eq_getElem?_getD, List.getElem?_replicate]; split <;> rfl
      rw [this]; grind
  exact this _
theorem inr_range {n : Nat} {x : Rt} (h : inr n x = true) : 0 ≤ x.f ∧ x.f < n ∧ 0 ≤ x.t ∧ x.t < n := by
  unfold inr isB at h
  simp only [Bool.and_eq_true, decide_eq_true_eq] at h
  omega
theorem payL_take (ps : List Rat) (rs : List Rt) (k : Nat) (hk : k ≤ rs.length) : (payL ps rs).take k = payL ps (rs.take k) := by
  unfold payL
  refine List.ext_getElem (by simp <;> omega) (fun j h1 h2 => ?_)
  have hj : j < k := by simp at h1; omega
  simp only [List.getElem_take, List.getElem_map, List.getElem_range]
  unfold payF
  rw [show (rs.take k).getD j Rt.zero = rs.getD j Rt.zero by rw [List.getD_eq_getElem?_getD, List.getD_eq_getElem?_getD, List.getElem?_take_of_lt hj]]
theorem total_rent {ps : List Rat} {rs : List Rt} (h : rs.all (inr ps.length) = true) : totL (payL ps rs) = -(dotq ps (inL ps.length rs)) := by
  have key : ∀ k, k ≤ rs.length → totL ((payL ps rs).take k) = -(dotq ps (inL ps.length (rs.take k))) := by
    intro k
    induction k with
    | zero =>
      intro _
      simp only [List.take_zero]
      rw [show inL ps.length [] = List.replicate ps.length 0 from rfl, dotq_zero]
      show (0 : Rat) = -0
      grind
    | succ k ih =>
      intro hk
      have hlen : (payL ps rs).length = rs.length := by unfold payL; simp
      rw [totL_take (by omega), ih (by omega), inL_take (by omega)]
      have hm : rs.getD k Rt.zero ∈ rs := by rw [List.getD_eq_getElem?_getD, List.getElem?_eq_getElem (show k < rs.length by omega)]; exact List.getElem_mem _
      obtain ⟨h1, h2, h3, h4⟩ := inr_range (List.all_eq_true.1 h _ hm)
      unfold put2
      rw [dotq_put (by rw [putq_length, inL_length]) h3 h4, dotq_put (by rw [inL_length]) h1 h2]
      have : (payL ps rs).getD k 0 = payF ps rs k := by
        unfold payL; rw [List.getD_eq_getElem?_getD, List.getElem?_map, List.getElem?_range (by omega)]; rfl
      rw [this]
      unfold payF
      grind
  have := key rs.length (Nat.le_refl _)
  rw [List.take_length, List.take_of_length_le (by unfold payL; simp)] at this
  exact this
end Go.Proofs.YtdkfdamihnieiaaGreat
end
