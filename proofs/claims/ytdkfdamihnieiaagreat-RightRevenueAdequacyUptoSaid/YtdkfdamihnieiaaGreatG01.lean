/- Plain facts on magnitudes in base 2^32: value, canonical digits, length. Nothing of the program is named here. -/
import Derived.Test.YtdkfdamihnieiaaGreatProg
import Derived.WalkKit
import Derived.LoopTactic
import Derived.Below
import Derived.Outline
import Derived.Deep.LoopGhost
import Derived.Deep.RegionHeld3
import Derived.Deep.QuietTactic
import Derived.BigQuiet
import Derived.WalkSpells
import Derived.Laws.AppendOwn
import Derived.Laws.MakeOwn
import Derived.Lib.Hide
import Derived.KernelRfl
set_option linter.unusedSimpArgs false
set_option linter.unusedVariables false
section
namespace Go.Proofs.YtdkfdamihnieiaaGreat

/-- The value of a magnitude, least significant word first. -/
def wv : List Nat → Nat
  | [] => 0
  | x :: r => x + 4294967296 * wv r
/-- 2^(32 k). -/
def pw (k : Nat) : Nat := 4294967296 ^ k
theorem pw_zero : pw 0 = 1 := rfl
theorem pw_succ (k : Nat) : pw (k + 1) = 4294967296 * pw k := by unfold pw; rw [Nat.pow_succ, Nat.mul_comm]
theorem pw_pos (k : Nat) : 0 < pw k := Nat.pow_pos (by omega)
theorem pw_add (a b : Nat) : pw (a + b) = pw a * pw b := Nat.pow_add _ _ _
theorem pw_mono {a b : Nat} (h : a ≤ b) : pw a ≤ pw b := Nat.pow_le_pow_right (by omega) h
/-- All words are words. -/
def okw (ws : List Nat) : Prop := ∀ x ∈ ws, x < 4294967296
theorem okw_nil : okw [] := by intro x h; cases h
theorem okw_cons {x : Nat} {r : List Nat} : okw (x :: r) ↔ x < 4294967296 ∧ okw r := by
  unfold okw; simp
theorem okw_append {a b : List Nat} : okw (a ++ b) ↔ okw a ∧ okw b := by
  unfold okw; simp only [List.mem_append]
  constructor
  · intro h; exact ⟨fun x hx => h x (.inl hx), fun x hx => h x (.inr hx)⟩
  · rintro ⟨h, k⟩ x (hx | hx)
    · exact h x hx
    · exact k x hx
theorem okw.take {ws : List Nat} (h : okw ws) (k : Nat) : okw (ws.take k) := fun x hx => h x (List.mem_of_mem_take hx)
theorem okw.drop {ws : List Nat} (h : okw ws) (k : Nat) : okw (ws.drop k) := fun x hx => h x (List.mem_of_mem_drop hx)
theorem okw.getD {ws : List Nat} (h : okw ws) (k : Nat) : ws.getD k 0 < 4294967296 := by
  rw [List.getD_eq_getElem?_getD]
  cases hk : ws[k]? with
  | none => simp
  | some x => simpa using h x (List.mem_of_getElem? hk)
theorem okw.set {ws : List Nat} (h : okw ws) (k : Nat) {x : Nat} (hx : x < 4294967296) : okw (ws.set k x) := fun y hy => by
  rcases List.mem_or_eq_of_mem_set hy with h1 | h1
  · exact h y h1
  · rw [h1]; exact hx
theorem okw_replicate (n : Nat) : okw (List.replicate n 0) := fun x hx => by
  rw [List.eq_of_mem_replicate hx]; omega
theorem wv_lt {ws : List Nat} (h : okw ws) : wv ws < pw ws.length := by
  induction ws with
  | nil => simp [wv, pw]
  | cons x r ih =>
    rw [okw_cons] at h
    have := ih h.2
    rw [List.length_cons, pw_succ, wv]
    omega
theorem wv_append (a b : List Nat) : wv (a ++ b) = wv a + pw a.length * wv b := by
  induction a with
  | nil => simp [wv, pw]
  | cons x r ih =>
    rw [List.cons_append, wv, wv, ih, List.length_cons, pw_succ, Nat.mul_add, Nat.mul_assoc]
    omega
theorem wv_replicate (n : Nat) : wv (List.replicate n 0) = 0 := by
  induction n with
  | zero => rfl
  | succ n ih => rw [List.replicate_succ, wv, ih]
theorem wv_snoc (a : List Nat) (x : Nat) : wv (a ++ [x]) = wv a + pw a.length * x := by
  rw [wv_append]; simp [wv]
theorem take_snoc (ws : List Nat) (k : Nat) (h : k < ws.length) : ws.take (k + 1) = ws.take k ++ [ws.getD k 0] := by
  rw [List.take_succ_eq_append_getElem h, List.getD_eq_getElem?_getD, List.getElem?_eq_getElem h]; rfl
/-- One word more of a magnitude, also behind its end. -/
theorem wv_take_succ (ws : List Nat) (k : Nat) : wv (ws.take (k + 1)) = wv (ws.take k) + pw k * ws.getD k 0 := by
  by_cases h : k < ws.length
  · rw [take_snoc ws k h, wv_snoc, List.length_take, Nat.min_eq_left (by omega)]
  · have h1 : ws.getD k 0 = 0 := by rw [List.getD_eq_getElem?_getD, List.getElem?_eq_none (by omega)]; rfl
    rw [h1, List.take_of_length_le (by omega), List.take_of_length_le (by omega), Nat.mul_zero, Nat.add_zero]
theorem wv_take_all {ws : List Nat} {k : Nat} (h : ws.length ≤ k) : wv (ws.take k) = wv ws := by rw [List.take_of_length_le h]
/-- From the most significant end. -/
theorem wv_drop (ws : List Nat) (k : Nat) (h : k < ws.length) : wv (ws.drop k) = ws.getD k 0 + 4294967296 * wv (ws.drop (k + 1)) := by
  rw [List.drop_eq_getElem_cons h, wv, List.getD_eq_getElem?_getD, List.getElem?_eq_getElem h]; rfl
theorem wv_set (ws : List Nat) (k x : Nat) (h : k < ws.length) : wv (ws.set k x) + pw k * ws.getD k 0 = wv ws + pw k * x := by
  induction ws generalizing k with
  | nil => simp at h
  | cons y r ih =>
    cases k with
    | zero => simp [wv, pw]; omega
    | succ k =>
      have := ih k (by simpa using h)
      simp only [List.set_cons_succ, wv, List.getD_cons_succ, pw_succ, Nat.mul_assoc]
      omega
theorem getD_set_self (ws : List Nat) (k x : Nat) (h : k < ws.length) : (ws.set k x).getD k 0 = x := by
  rw [List.getD_eq_getElem?_getD, List.getElem?_set_self h]; rfl
theorem getD_set_ne (ws : List Nat) (k j x : Nat) (h : k ≠ j) : (ws.set k x).getD j 0 = ws.getD j 0 := by
  rw [List.getD_eq_getElem?_getD, List.getElem?_set_ne h, ← List.getD_eq_getElem?_getD]

/-- The canonical digits of a number. -/
def dg (n : Nat) : List Nat := if h : n = 0 then [] else n % 4294967296 :: dg (n / 4294967296)
termination_by n
decreasing_by omega
theorem dg_zero : dg 0 = [] := by unfold dg; simp
theorem dg_pos {n : Nat} (h : n ≠ 0) : dg n = n % 4294967296 :: dg (n / 4294967296) := by rw [dg]; simp [h]
theorem wv_dg (n : Nat) : wv (dg n) = n := by
  induction n using Nat.strongRecOn with
  | _ n ih =>
    by_cases h : n = 0
    · rw [h, dg_zero]; rfl
    · rw [dg_pos h, wv, ih _ (by omega)]; omega
theorem okw_dg (n : Nat) : okw (dg n) := by
  induction n using Nat.strongRecOn with
  | _ n ih =>
    by_cases h : n = 0
    · rw [h, dg_zero]; exact okw_nil
    · rw [dg_pos h, okw_cons]; exact ⟨by omega, ih _ (by omega)⟩
theorem dg_length {n B : Nat} (h : n < pw B) : (dg n).length ≤ B := by
  induction B generalizing n with
  | zero => rw [pw_zero] at h; rw [show n = 0 by omega, dg_zero]; simp
  | succ B ih =>
    by_cases h0 : n = 0
    · rw [h0, dg_zero]; simp
    · rw [dg_pos h0, List.length_cons]
      rw [pw_succ] at h
      have := ih (n := n / 4294967296) (by omega)
      omega
theorem dg_length_lt (n : Nat) : n < pw (dg n).length := by
  have := wv_lt (okw_dg n); rwa [wv_dg] at this
theorem dg_length_iff {n B : Nat} : (dg n).length ≤ B ↔ n < pw B :=
  ⟨fun h => Nat.lt_of_lt_of_le (dg_length_lt n) (pw_mono h), dg_length⟩
theorem dg_eq_nil {n : Nat} : dg n = [] ↔ n = 0 := by
  constructor
  · intro h
    by_cases h0 : n = 0
    · exact h0
    · rw [dg_pos h0] at h; cases h
  · rintro rfl; exact dg_zero
theorem dg_length_pos {n : Nat} : 0 < (dg n).length ↔ n ≠ 0 := by
  rw [Nat.pos_iff_ne_zero, ne_eq, List.length_eq_zero_iff, dg_eq_nil]
/-- No zero word at the end. -/
def can (ws : List Nat) : Prop := ws = [] ∨ ws.getD (ws.length - 1) 0 ≠ 0
theorem can_tail {x : Nat} {r : List Nat} (h : can (x :: r)) : can r := by
  cases r with
  | nil => exact .inl rfl
  | cons y t =>
    refine .inr ?_
    rcases h with h | h
    · cases h
    · simpa using h
theorem wv_zero_can {ws : List Nat} (h : can ws) (h0 : wv ws = 0) : ws = [] := by
  induction ws with
  | nil => rfl
  | cons x r ih =>
    exfalso
    rw [wv] at h0
    have hr := ih (can_tail h) (by omega)
    subst hr
    rcases h with h | h
    · cases h
    · simp at h; omega
theorem dg_unique {ws : List Nat} (h : okw ws) (hc : can ws) : ws = dg (wv ws) := by
  induction ws with
  | nil => simp [wv, dg_zero]
  | cons x r ih =>
    rw [okw_cons] at h
    have hne : wv (x :: r) ≠ 0 := fun e => by have := wv_zero_can hc e; cases this
    have hr := ih h.2 (can_tail hc)
    rw [wv] at hne ⊢
    rw [dg_pos hne, show (x + 4294967296 * wv r) % 4294967296 = x by omega, show (x + 4294967296 * wv r) / 4294967296 = wv r by omega, ← hr]
theorem can_dg (n : Nat) : can (dg n) := by
  induction n using Nat.strongRecOn with
  | _ n ih =>
    by_cases h : n = 0
    · rw [h, dg_zero]; exact .inl rfl
    · have h1 := ih (n / 4294967296) (by omega)
      rw [dg_pos h]
      refine .inr ?_
      rcases h1 with h1 | h1
      · rw [h1]; rw [dg_eq_nil] at h1; simp; omega
      · cases hd : dg (n / 4294967296) with
        | nil => rw [dg_eq_nil] at hd; simp; omega
        | cons y t => rw [hd] at h1; simpa using h1
/-- A prefix of words, all behind it zero, whose last word is no zero: the canonical digits. -/
theorem take_dg {ws : List Nat} (h : okw ws) (k : Nat) (hk : k ≤ ws.length) (hz : wv (ws.drop k) = 0) (hl : k = 0 ∨ ws.getD (k - 1) 0 ≠ 0) : ws.take k = dg (wv ws) := by
  have h1 : wv ws = wv (ws.take k) := by
    conv => lhs; rw [← List.take_append_drop k ws]
    rw [wv_append, hz, Nat.mul_zero, Nat.add_zero]
  rw [h1]
  refine dg_unique (h.take k) ?_
  by_cases h0 : k = 0
  · subst h0; exact .inl (by simp)
  · refine .inr ?_
    have hl' : ws.getD (k - 1) 0 ≠ 0 := hl.resolve_left h0
    rw [List.length_take, Nat.min_eq_left hk]
    rw [List.getD_eq_getElem?_getD] at hl' ⊢
    rwa [List.getElem?_take_of_lt (by omega)]
theorem dg_prefix {ws : List Nat} (h : okw ws) : ∃ k, k ≤ ws.length ∧ ws.take k = dg (wv ws) := by
  have key : ∀ k, k ≤ ws.length → wv (ws.drop k) = 0 → ∃ j, j ≤ ws.length ∧ ws.take j = dg (wv ws) := by
    intro k
    induction k with
    | zero => exact fun h0 hz => ⟨0, h0, take_dg h 0 h0 hz (.inl rfl)⟩
    | succ k ih =>
      intro h0 hz
      by_cases h1 : ws.getD k 0 = 0
      · exact ih (by omega) (by rw [wv_drop ws k (by omega), h1, hz])
      · exact ⟨k + 1, h0, take_dg h (k + 1) h0 hz (.inr h1)⟩
  exact key ws.length (Nat.le_refl _) (by simp [wv])
theorem pw_one : pw 1 = 4294967296 := rfl
theorem wv_one (x : Nat) : wv [x] = x := by simp [wv]
theorem wv_two (x y : Nat) : wv [x, y] = x + 4294967296 * y := by simp [wv]
theorem dg_le_of_okw {ws : List Nat} (h : okw ws) : (dg (wv ws)).length ≤ ws.length := dg_length (wv_lt h)
theorem dg_one {n : Nat} (h0 : n ≠ 0) (h : n < 4294967296) : dg n = [n] := by
  rw [dg_pos h0, Nat.mod_eq_of_lt h, show n / 4294967296 = 0 by omega, dg_zero]
/-! ### Sums of magnitudes, place by place -/
theorem wv_map_add {α : Type} (l : List α) (f g : α → Nat) : wv (l.map fun x => f x + g x) = wv (l.map f) + wv (l.map g) := by
  induction l with
  | nil => rfl
  | cons x r ih => simp only [List.map_cons, wv, ih]; omega
theorem wv_map_range (ws : List Nat) (n : Nat) : wv ((List.range n).map fun k => ws.getD k 0) = wv (ws.take n) := by
  induction n with
  | zero => simp [wv]
  | succ n ih => rw [List.range_succ, List.map_append, List.map_singleton, wv_snoc, ih, wv_take_succ]; simp
theorem map_finRange {β : Type} (n : Nat) (g : Nat → β) : (List.finRange n).map (fun x : Fin n => g x.val) = (List.range n).map g := by
  apply List.ext_getElem
  · simp
  · intro i h1 h2; simp
theorem wv_map_fin (ws : List Nat) (n : Nat) (h : ws.length ≤ n) : wv ((List.finRange n).map fun x : Fin n => ws.getD x.val 0) = wv ws := by
  rw [map_finRange n (fun k => ws.getD k 0), wv_map_range, wv_take_all h]
theorem wv_map_const {α : Type} (l : List α) : wv (l.map fun _ => 4294967295) + 1 = pw l.length := by
  induction l with
  | nil => rfl
  | cons x r ih => simp only [List.map_cons, wv, List.length_cons, pw_succ]; omega
end Go.Proofs.YtdkfdamihnieiaaGreat
end
section
/- What memory holds: words, numbers; the frame of a call that only makes new memory. -/
open Go Go.RowKit
namespace Go.Proofs.YtdkfdamihnieiaaGreat
open Go.Proofs

/-- Word k of a magnitude, 0 behind its end. -/
def wd (ws : List Nat) (k : Nat) : Int := ((ws.getD k 0 : Nat) : Int)
/-- A slice of words that is read: its address, its capacity, its words; its block is one that 'ok' lets. -/
structure Rd (ok : Nat → Prop) (w : World) (A : Option Addr) (c : Nat) (ws : List Nat) : Prop where
  cap : ws.length ≤ c
  lim : c ≤ maxLen
  okw : okw ws
  cells : 0 < ws.length → ∃ b o, A = some ⟨b, o, none⟩ ∧ ok b ∧ ∀ j, j < ws.length → w.cell? ⟨b, o + j, none⟩ = some (.int .u32 (wd ws j))
theorem Rd.below {ok w w' A c ws} (h : Rd ok w A c ws) (hb : Below w.heap.size w w') : Rd ok w' A c ws := by
  refine ⟨h.cap, h.lim, h.okw, fun h0 => ?_⟩
  obtain ⟨b, o, hA, hok, hc⟩ := h.cells h0
  exact ⟨b, o, hA, hok, fun j hj => (hb.cell (World.block_lt_of_cell? w _ (hc j hj))).trans (hc j hj)⟩
theorem Rd.al {ok w A c ws} (h : Rd ok w A c ws) {o} : Rd ok (w.alloc o) A c ws := h.below ((Below.refl _ _).alloc (Nat.le_refl _) _)
theorem Rd.dr {ok w A c ws} (h : Rd ok w A c ws) : Rd ok w.drew A c ws := h.below (Below.refl _ _).drew
theorem Rd.set {ok w A c ws} (h : Rd ok w A c ws) {a : Addr} {v} (hn : ¬ ok a.block) : Rd ok (w.setCell a v) A c ws := by
  refine ⟨h.cap, h.lim, h.okw, fun h0 => ?_⟩
  obtain ⟨b, o, hA, hok, hc⟩ := h.cells h0
  refine ⟨b, o, hA, hok, fun j hj => (World.cell?_of_block (w := w) (a := ⟨b, o + j, none⟩) (Below.heap_setCell _ _ _ _ ?_)).trans (hc j hj)⟩
  rintro rfl; exact hn hok
theorem Rd.mono {ok ok' : Nat → Prop} {w A c ws} (h : Rd ok w A c ws) (hk : ∀ b, b < w.heap.size → ok b → ok' b) : Rd ok' w A c ws := by
  refine ⟨h.cap, h.lim, h.okw, fun h0 => ?_⟩
  obtain ⟨b, o, hA, hok, hc⟩ := h.cells h0
  exact ⟨b, o, hA, hk b (World.block_lt_of_cell? w ⟨b, o + 0, none⟩ (hc 0 h0)) hok, hc⟩
theorem Rd.nil {ok w A c} (h : c ≤ maxLen) : Rd ok w A c [] := ⟨Nat.zero_le _, h, okw_nil, fun h => by simp at h⟩
theorem Rd.len {ok w A c ws} (h : Rd ok w A c ws) : ws.length ≤ 9223372036854775807 := by
  have h1 := h.cap; have h2 := h.lim; unfold maxLen at h2; omega
theorem Rd.take {ok w A c ws} (h : Rd ok w A c ws) (k : Nat) : Rd ok w A c (ws.take k) := by
  refine ⟨Nat.le_trans (List.length_take_le' _ _) h.cap, h.lim, h.okw.take k, fun h0 => ?_⟩
  have hl : (ws.take k).length = min k ws.length := by simp
  obtain ⟨b, o, hA, hok, hc⟩ := h.cells (by omega)
  refine ⟨b, o, hA, hok, fun j hj => ?_⟩
  rw [hc j (by omega)]
  unfold wd
  rw [List.getD_eq_getElem?_getD, List.getD_eq_getElem?_getD, List.getElem?_take_of_lt (by omega)]

/-- A slice value of words. -/
def Wd (ok : Nat → Prop) (w : World) (v : Value) (ws : List Nat) : Prop := ∃ A c, v = .slice A ws.length c ∧ Rd ok w A c ws
theorem Wd.shape {ok w v ws} (h : Wd ok w v ws) : ∃ A l c, v = .slice A l c := by obtain ⟨A, c, rfl, _⟩ := h; exact ⟨_, _, _, rfl⟩
theorem Wd.len_eq {ok w A l c ws} (h : Wd ok w (.slice A l c) ws) : l = ws.length := by obtain ⟨A', c', e, _⟩ := h; injection e
theorem Wd.rd {ok w A l c ws} (h : Wd ok w (.slice A l c) ws) : Rd ok w A c ws := by obtain ⟨A', c', e, h⟩ := h; injection e with e1 e2 e3; subst e1 e3; exact h
theorem Wd.mk {ok w A l c ws} (h : Rd ok w A c ws) (hl : l = ws.length) : Wd ok w (.slice A l c) ws := ⟨A, c, by rw [hl], h⟩
theorem Wd.below {ok w w' v ws} (h : Wd ok w v ws) (hb : Below w.heap.size w w') : Wd ok w' v ws := by obtain ⟨A, c, e, h⟩ := h; exact ⟨A, c, e, h.below hb⟩
theorem Wd.mono {ok ok' : Nat → Prop} {w v ws} (h : Wd ok w v ws) (hk : ∀ b, b < w.heap.size → ok b → ok' b) : Wd ok' w v ws := by obtain ⟨A, c, e, h⟩ := h; exact ⟨A, c, e, h.mono hk⟩
theorem Wd.set {ok w v ws} (h : Wd ok w v ws) {a : Addr} {u} (hn : ¬ ok a.block) : Wd ok (w.setCell a u) v ws := by obtain ⟨A, c, e, h⟩ := h; exact ⟨A, c, e, h.set hn⟩
theorem Wd.okw {ok w v ws} (h : Wd ok w v ws) : okw ws := by obtain ⟨A, c, e, h⟩ := h; exact h.okw
theorem Wd.dr {ok w v ws} (h : Wd ok w v ws) : Wd ok w.drew v ws := by obtain ⟨A, c, e, h⟩ := h; exact ⟨A, c, e, h.dr⟩
theorem Wd.al {ok w v ws} (h : Wd ok w v ws) {o} : Wd ok (w.alloc o) v ws := by obtain ⟨A, c, e, h⟩ := h; exact ⟨A, c, e, h.al⟩
theorem Wd.nil {ok w} : Wd ok w (.slice none 0 0) [] := ⟨none, 0, rfl, Rd.nil (by unfold maxLen; omega)⟩

/-- The sign and the magnitude. -/
def sg (n : Bool) (x : Nat) : Int := if n then -(x : Int) else x
theorem sg_abs (z : Int) : sg (decide (z < 0)) z.natAbs = z := by
  unfold sg
  by_cases h : z < 0 <;> simp [h] <;> omega
theorem sg_neg_iff (n : Bool) (x : Nat) : decide (sg n x < 0) = (n && decide (0 < x)) := by
  unfold sg; cases n <;> simp
theorem sg_natAbs (n : Bool) (x : Nat) : (sg n x).natAbs = x := by unfold sg; cases n <;> simp
/-- An integer as it may come in: any magnitude, at most B words. -/
def isZ (ok : Nat → Prop) (w : World) (v : Value) (z : Int) (B : Nat) : Prop :=
  ∃ n s ws, v = .agg #[.bool n, s] ∧ Wd ok w s ws ∧ ws.length ≤ B ∧ z = sg n (wv ws)
/-- An integer in canonical form, at most B words. -/
def isZc (ok : Nat → Prop) (w : World) (v : Value) (z : Int) (B : Nat) : Prop :=
  ∃ s, v = .agg #[.bool (decide (z < 0)), s] ∧ Wd ok w s (dg z.natAbs) ∧ (dg z.natAbs).length ≤ B
theorem isZ.shape {ok w v z B} (h : isZ ok w v z B) : ∃ n A l c, v = .agg #[.bool n, .slice A l c] := by
  obtain ⟨n, s, ws, rfl, hs, _⟩ := h; obtain ⟨A, l, c, rfl⟩ := hs.shape; exact ⟨_, _, _, _, rfl⟩
theorem isZc.z {ok w v z B} (h : isZc ok w v z B) : isZ ok w v z B := by
  obtain ⟨s, rfl, hr, hl⟩ := h
  exact ⟨_, s, _, rfl, hr, hl, by rw [wv_dg, sg_abs]⟩
theorem isZc.shape {ok w v z B} (h : isZc ok w v z B) : ∃ n A l c, v = .agg #[.bool n, .slice A l c] := h.z.shape
theorem isZ.parts {ok w n s z B} (h : isZ ok w (.agg #[.bool n, s]) z B) : ∃ ws, Wd ok w s ws ∧ ws.length ≤ B ∧ z = sg n (wv ws) := by
  obtain ⟨n', s', ws, e, h⟩ := h
  simp only [Value.agg.injEq] at e
  have e1 := congrArg (fun a => a[0]!) e
  have e2 := congrArg (fun a => a[1]!) e
  simp at e1 e2
  subst e1 e2
  exact ⟨ws, h⟩
theorem isZc.parts {ok w n s z B} (h : isZc ok w (.agg #[.bool n, s]) z B) : n = decide (z < 0) ∧ Wd ok w s (dg z.natAbs) ∧ (dg z.natAbs).length ≤ B := by
  obtain ⟨s', e, h⟩ := h
  simp only [Value.agg.injEq] at e
  have e1 := congrArg (fun a => a[0]!) e
  have e2 := congrArg (fun a => a[1]!) e
  simp at e1 e2
  subst e1 e2
  exact ⟨rfl, h⟩
theorem isZ.below {ok w w' v z B} (h : isZ ok w v z B) (hb : Below w.heap.size w w') : isZ ok w' v z B := by
  obtain ⟨n, s, ws, h1, h2, h3, h4⟩ := h
  exact ⟨n, s, ws, h1, h2.below hb, h3, h4⟩
theorem isZc.below {ok w w' v z B} (h : isZc ok w v z B) (hb : Below w.heap.size w w') : isZc ok w' v z B := by
  obtain ⟨s, h1, h2, h3⟩ := h
  exact ⟨s, h1, h2.below hb, h3⟩
theorem isZ.set {ok w v z B} (h : isZ ok w v z B) {a : Addr} {u} (hn : ¬ ok a.block) : isZ ok (w.setCell a u) v z B := by
  obtain ⟨n, s, ws, h1, h2, h3, h4⟩ := h
  exact ⟨n, s, ws, h1, h2.set hn, h3, h4⟩
theorem isZc.set {ok w v z B} (h : isZc ok w v z B) {a : Addr} {u} (hn : ¬ ok a.block) : isZc ok (w.setCell a u) v z B := by
  obtain ⟨s, h1, h2, h3⟩ := h
  exact ⟨s, h1, h2.set hn, h3⟩
theorem isZ.mono {ok ok' : Nat → Prop} {w v z B B'} (h : isZ ok w v z B) (hk : ∀ b, b < w.heap.size → ok b → ok' b) (hB : B ≤ B') : isZ ok' w v z B' := by
  obtain ⟨n, s, ws, h1, h2, h3, h4⟩ := h
  exact ⟨n, s, ws, h1, h2.mono hk, Nat.le_trans h3 hB, h4⟩
theorem isZc.mono {ok ok' : Nat → Prop} {w v z B B'} (h : isZc ok w v z B) (hk : ∀ b, b < w.heap.size → ok b → ok' b) (hB : B ≤ B') : isZc ok' w v z B' := by
  obtain ⟨s, h1, h2, h3⟩ := h
  exact ⟨s, h1, h2.mono hk, Nat.le_trans h3 hB⟩
theorem isZc.le {ok w v z B B'} (h : isZc ok w v z B) (hB : z.natAbs < pw B') : isZc ok w v z B' := by
  obtain ⟨s, h1, h2, h3⟩ := h
  exact ⟨s, h1, h2, dg_length hB⟩
theorem isZ.bound {ok w v z B} (h : isZ ok w v z B) : z.natAbs < pw B := by
  obtain ⟨n, s, ws, h1, h2, h3, rfl⟩ := h
  have h4 := wv_lt h2.okw
  have h5 := pw_mono h3
  rw [sg_natAbs]
  omega
/-- The zero value of an integer. -/
theorem isZc.zero {ok w B} : isZc ok w (.agg #[.bool false, .slice none 0 0]) 0 B := ⟨_, rfl, by rw [show (0 : Int).natAbs = 0 from rfl, dg_zero]; exact Wd.nil, by rw [show (0 : Int).natAbs = 0 from rfl, dg_zero]; simp⟩
/-- A block of new memory. -/
def fresh (w : World) : Nat → Prop := fun k => w.heap.size ≤ k
theorem fresh_mono {w w1 : World} (h : w.heap.size ≤ w1.heap.size) {b : Nat} (hb : fresh w1 b) : fresh w b := Nat.le_trans h hb
/-- The call returns; what was there is as it was; R of the new world and the result. -/
def Ret (w : World) (R : World → Value → Prop) : Ending → World → Prop := fun e w' => ∃ v, e = .returned v ∧ Below w.heap.size w w' ∧ R w' v
/-- It returns a canonical integer. -/
def RetZ (w : World) (ok : Nat → Prop) (z : Int) (B : Nat) : Ending → World → Prop := fun e w' =>
  ∃ n A l c, e = .returned (.agg #[.bool n, .slice A l c]) ∧ Below w.heap.size w w' ∧ isZc ok w' (.agg #[.bool n, .slice A l c]) z B
theorem RetZ.mk {w w' : World} {ok : Nat → Prop} {z : Int} {B : Nat} {v : Value} (hb : Below w.heap.size w w') (h : isZc ok w' v z B) : RetZ w ok z B (.returned v) w' := by
  obtain ⟨n, A, l, c, rfl⟩ := h.shape; exact ⟨n, A, l, c, rfl, hb, h⟩
/-- The result stands in a box of the call's own. -/
theorem RetZ.box {w w1 : World} {ok : Nat → Prop} {b : Nat} {n : Bool} {A : Option Addr} {l c : Nat} {z : Int} {B : Nat} (hb : Below w.heap.size w w1) (hbb : w.heap.size ≤ b) (hr : isZc ok w1 (.agg #[.bool n, .slice A l c]) z B) (hn : ¬ ok b)
    (hk : ∀ k, ok k → w.heap.size ≤ k) : RetZ w (fresh w) z B (.returned (.agg #[.bool n, .slice A l c])) ((w1.setCell ⟨b, 0, none⟩ (.bool n)).setCell ⟨b, 1, none⟩ (.slice A l c)) :=
  ⟨n, A, l, c, rfl, (hb.setCell hbb _).setCell hbb _, ((hr.set hn).set hn).mono (fun k _ h => hk k h) (Nat.le_refl _)⟩
theorem RetZ.boxF {w w1 W : World} {b : Nat} {n : Bool} {A : Option Addr} {l c : Nat} {z : Int} {B : Nat} (hb : Below w.heap.size w w1) (hr : isZc (fresh W) w1 (.agg #[.bool n, .slice A l c]) z B) (hbb : w.heap.size ≤ b) (hlt : b < W.heap.size) :
    RetZ w (fresh w) z B (.returned (.agg #[.bool n, .slice A l c])) ((w1.setCell ⟨b, 0, none⟩ (.bool n)).setCell ⟨b, 1, none⟩ (.slice A l c)) :=
  RetZ.box hb hbb hr (by unfold fresh; omega) (fun k hk => by unfold fresh at hk; omega)
/-- It returns a slice of words. -/
def RetW (w : World) (R : World → Value → Prop) : Ending → World → Prop := fun e w' =>
  ∃ A l c, e = .returned (.slice A l c) ∧ Below w.heap.size w w' ∧ R w' (.slice A l c)
/-- From W0 on nothing below block n has turned. -/
structure Bx (n : Nat) (W0 W : World) : Prop where
  b : Below n W0 W
  s : n ≤ W.heap.size
theorem Bx.step {n W0 W W'} (h : Bx n W0 W) (hb : Below W.heap.size W W') : Bx n W0 W' := ⟨h.b.trans (hb.mono h.s), Nat.le_trans h.s hb.size⟩
theorem Bx.cell {n W0 W} (h : Bx n W0 W) : ∀ b o, b < n → W.cell? ⟨b, o, none⟩ = W0.cell? ⟨b, o, none⟩ := fun b o hb => h.b.cell (p := ⟨b, o, none⟩) hb
theorem Bx.frozen {n W0 W} (h : Bx n W0 W) : ∀ b o, b < n → W.frozen? ⟨b, o, none⟩ = W0.frozen? ⟨b, o, none⟩ := fun b o hb => h.b.frozen (p := ⟨b, o, none⟩) hb
theorem Bx.refl {n : Nat} (W : World) (h : W.heap.size = n) : Bx n W W := ⟨Below.refl _ _, Nat.le_of_eq h.symm⟩
theorem Bx.start (W : World) {n : Nat} (h : W.heap.size = n) : Bx n W W.drew := ⟨(Below.refl _ _).drew, Nat.le_of_eq h.symm⟩
theorem Bx.dr {n W0 W} (h : Bx n W0 W) : Bx n W0 W.drew := ⟨h.b.drew, h.s⟩
theorem Bx.al {n W0 W} (h : Bx n W0 W) {o} : Bx n W0 (W.alloc o) := h.step ((Below.refl _ _).alloc (Nat.le_refl _) _)
theorem Bx.go {n W0 W W'} (h : Bx n W0 W) (hb : Below W.heap.size W W') : Bx n W0 W' ∧ (∀ b o, b < n → W'.cell? ⟨b, o, none⟩ = W0.cell? ⟨b, o, none⟩) ∧ (∀ b o, b < n → W'.frozen? ⟨b, o, none⟩ = W0.frozen? ⟨b, o, none⟩) :=
  ⟨h.step hb, (h.step hb).cell, (h.step hb).frozen⟩
theorem z2 (h : Nat) : h < h + 2 ∧ h + 1 < h + 2 ∧ h + 1 ≠ h := by omega
theorem z3 (h : Nat) : h < h + 3 ∧ h + 1 < h + 3 ∧ h + 1 + 1 < h + 3 ∧ h + 1 + 1 ≠ h ∧ h + 1 ≠ h := by omega
theorem z4 (h : Nat) : h < h + 4 ∧ h + 1 < h + 4 ∧ h + 1 + 1 < h + 4 ∧ h + 1 + 1 + 1 < h + 4 ∧ h + 1 + 1 ≠ h ∧ h + 1 ≠ h ∧ h + 1 + 1 + 1 ≠ h := by omega
theorem keep_of {n N : Nat} {W0 W : World} (h : Bx n W0 W) (hN : N ≤ n) : ∀ b o, b < N → W.cell? ⟨b, o, none⟩ = W0.cell? ⟨b, o, none⟩ := fun b o hb => h.cell b o (Nat.lt_of_lt_of_le hb hN)
theorem keep_set {n : Nat} {W0 W : World} (h : ∀ b o, b < n → W.cell? ⟨b, o, none⟩ = W0.cell? ⟨b, o, none⟩) (a : Addr) (v : Value) (ha : n ≤ a.block) : ∀ b o, b < n → (W.setCell a v).cell? ⟨b, o, none⟩ = W0.cell? ⟨b, o, none⟩ := fun b o hb => (World.cell?_of_block (w := W) (Below.heap_setCell _ _ _ _ (by simp; omega))).trans (h b o hb)
theorem keep_al {n : Nat} {W0 W : World} (h : ∀ b o, b < n → W.cell? ⟨b, o, none⟩ = W0.cell? ⟨b, o, none⟩) (o : Obj) (hn : n ≤ W.heap.size) : ∀ b o', b < n → (W.alloc o).cell? ⟨b, o', none⟩ = W0.cell? ⟨b, o', none⟩ := fun b o' hb => (World.cell?_of_block (w := W) (Below.heap_alloc _ _ _ (by simp; omega))).trans (h b o' hb)
theorem keep_dr {n N : Nat} {W0 W : World} (h : Bx n W0 W) (hN : N ≤ n) : ∀ b o, b < N → W.drew.cell? ⟨b, o, none⟩ = W0.cell? ⟨b, o, none⟩ := fun b o hb => h.cell b o (Nat.lt_of_lt_of_le hb hN)
theorem keep_set1 {n N B o1 : Nat} {v1 : Value} {W0 W : World} (h : Bx n W0 W) (hN : N ≤ n) (hB : N ≤ B) : ∀ b o, b < N → (W.setCell ⟨B, o1, none⟩ v1).cell? ⟨b, o, none⟩ = W0.cell? ⟨b, o, none⟩ := keep_set (keep_of h hN) _ _ hB
theorem keep_set2 {n N B o1 o2 : Nat} {v1 v2 : Value} {W0 W : World} (h : Bx n W0 W) (hN : N ≤ n) (hB : N ≤ B) : ∀ b o, b < N → ((W.setCell ⟨B, o1, none⟩ v1).setCell ⟨B, o2, none⟩ v2).cell? ⟨b, o, none⟩ = W0.cell? ⟨b, o, none⟩ := keep_set (keep_set1 h hN hB) _ _ hB
theorem keep_set4 {n N B o1 o2 o3 o4 : Nat} {v1 v2 v3 v4 : Value} {W0 W : World} (h : Bx n W0 W) (hN : N ≤ n) (hB : N ≤ B) : ∀ b o, b < N → ((((W.setCell ⟨B, o1, none⟩ v1).setCell ⟨B, o2, none⟩ v2).setCell ⟨B, o3, none⟩ v3).setCell ⟨B, o4, none⟩ v4).cell? ⟨b, o, none⟩ = W0.cell? ⟨b, o, none⟩ := keep_set (keep_set (keep_set2 h hN hB) _ _ hB) _ _ hB
/-- A world that the walk has come to lies over the first one. -/
theorem b0 (w : World) : Below w.heap.size w w := Below.refl _ _
theorem bal {w W : World} (h : Below w.heap.size w W) {o} : Below w.heap.size w (W.alloc o) := h.alloc h.size _
theorem bdr {w W : World} (h : Below w.heap.size w W) : Below w.heap.size w W.drew := h.drew
theorem bthen {w W W' : World} (h : Below w.heap.size w W) (k : Below W.heap.size W W') : Below w.heap.size w W' := h.trans (k.mono h.size)
theorem bset {w W : World} (h : Below w.heap.size w W) {a : Addr} {v : Value} (ha : w.heap.size ≤ a.block) : Below w.heap.size w (W.setCell a v) := h.setCell ha v
theorem Rd.trim {ok w A c ws} (h : Rd ok w A c ws) : Rd ok w A c (dg (wv ws)) := by
  obtain ⟨k, _, e⟩ := dg_prefix h.okw
  rw [← e]; exact h.take k
theorem dg_dec (x : Nat) : decide (0 < (dg x).length) = decide (0 < x) := by
  rw [decide_eq_decide, dg_length_pos]; omega
/-- A literal of two words, one word, just laid. -/
theorem Rd.two {W : World} {x y : Int} {a b n : Nat} (hx : x = (a : Int)) (hy : y = (b : Int)) (ha : a < 4294967296) (hb : b < 4294967296) (hn : W.heap.size = n := by simp) : Rd (fun k => k = n) (W.alloc (.cells #[.int .u32 x, .int .u32 y] 94)) (some ⟨n, 0, none⟩) 2 [a, b] := by
  subst hx hy hn
  refine ⟨by simp, by simp [maxLen], by intro z hz; simp at hz; omega, fun _ => ⟨_, 0, rfl, rfl, fun j hj => ?_⟩⟩
  have hj' : j = 0 ∨ j = 1 := by simp only [List.length_cons, List.length_nil] at hj; omega
  rw [cell_of_row _ _ _ _ _ _ (heap_alloc_new W _)]
  rcases hj' with rfl | rfl <;> simp [wd]
theorem Rd.two64 {W : World} {x n : Nat} (h : x < 18446744073709551616) (hn : W.heap.size = n := by simp) : Rd (fun k => k = n) (W.alloc (.cells #[.int .u32 ((x : Int) % 4294967296), .int .u32 ((x : Int) / 4294967296)] 94)) (some ⟨n, 0, none⟩) 2 [x % 4294967296, x / 4294967296] :=
  Rd.two (by omega) (by omega) (by omega) (by omega) hn
theorem Rd.one {W : World} {x : Int} {a n : Nat} (hx : x = (a : Int)) (ha : a < 4294967296) (hn : W.heap.size = n := by simp) : Rd (fun k => k = n) (W.alloc (.cells #[.int .u32 x] 94)) (some ⟨n, 0, none⟩) 1 [a] := by
  subst hx hn
  refine ⟨by simp, by simp [maxLen], by intro z hz; simp at hz; omega, fun _ => ⟨_, 0, rfl, rfl, fun j hj => ?_⟩⟩
  have hj' : j = 0 := by simp only [List.length_cons, List.length_nil] at hj; omega
  subst hj'
  rw [cell_of_row _ _ _ _ _ _ (heap_alloc_new W _)]
  simp [wd]

/-! ### A block of the call's own, known whole -/
def Blk (w : World) (b : Nat) (T : TypeId) (cs : List Value) : Prop := w.heap[b]? = some (.cells cs.toArray T (0, 0))
theorem Blk.lt {w b T cs} (h : Blk w b T cs) : b < w.heap.size := (Array.getElem?_eq_some_iff.1 h).1
theorem Blk.cell {w b T cs} (h : Blk w b T cs) (j : Nat) : w.cell? ⟨b, j, none⟩ = cs[j]? := by
  rw [cell_of_row _ _ _ _ _ _ h]; simp
theorem Blk.frozen {w b T cs} (h : Blk w b T cs) (j : Nat) : w.frozen? ⟨b, j, none⟩ = false := by
  simp [World.frozen?, show w.heap[b]? = _ from h]
theorem Blk.set {w b T cs} (h : Blk w b T cs) (j : Nat) (v : Value) : Blk (w.setCell ⟨b, j, none⟩ v) b T (cs.set j v) := by
  unfold Blk at *
  obtain ⟨hlt, hk⟩ := Array.getElem?_eq_some_iff.1 h
  show (w.heap.modify b _)[b]? = _
  rw [Array.getElem?_eq_getElem (by rw [Array.size_modify]; exact hlt), Array.getElem_modify_self, hk]
  simp
theorem Blk.setNe {w b T cs} (h : Blk w b T cs) {a : Addr} (v : Value) (hne : a.block ≠ b) : Blk (w.setCell a v) b T cs := by
  unfold Blk at *
  rw [Below.heap_setCell _ _ _ _ (Ne.symm hne)]; exact h
theorem Blk.below {w w' b T cs} (h : Blk w b T cs) (hb : Below w.heap.size w w') : Blk w' b T cs := (hb.block b h.lt).trans h
theorem Blk.al {w b T cs} (h : Blk w b T cs) {o} : Blk (w.alloc o) b T cs := h.below (bal (b0 _))
theorem Blk.dr {w b T cs} (h : Blk w b T cs) : Blk w.drew b T cs := h
theorem Blk.new (w : World) (cs : List Value) (T : TypeId) {n : Nat} (hn : w.heap.size = n := by simp) : Blk (w.alloc (.cells cs.toArray T)) n T cs := by
  subst hn; exact heap_alloc_new w _
/-- Words as cells. -/
def u32s (ws : List Nat) : List Value := ws.map fun (x : Nat) => .int .u32 (x : Int)
theorem u32s_get {ws : List Nat} {j : Nat} (h : j < ws.length) : (u32s ws)[j]? = some (.int .u32 (wd ws j)) := by
  unfold u32s wd
  rw [List.getElem?_map, List.getElem?_eq_getElem h, List.getD_eq_getElem?_getD, List.getElem?_eq_getElem h]; rfl
theorem u32s_set (ws : List Nat) (j x : Nat) : (u32s ws).set j (.int .u32 (x : Int)) = u32s (ws.set j x) := by
  unfold u32s; rw [List.map_set]
theorem Blk.rd {w b ws c} {ok : Nat → Prop} (h : Blk w b 94 (u32s ws)) (hok : ok b) (hw : okw ws) (hc : ws.length ≤ c) (hl : c ≤ maxLen) : Rd ok w (some ⟨b, 0, none⟩) c ws :=
  ⟨hc, hl, hw, fun _ => ⟨b, 0, rfl, hok, fun j hj => by rw [Nat.zero_add, h.cell, u32s_get hj]⟩⟩
theorem Blk.setW {w b ws} (h : Blk w b 94 (u32s ws)) (j : Nat) {v : Int} (x : Nat) (hx : v = (x : Int)) : Blk (w.setCell ⟨b, j, none⟩ (.int .u32 v)) b 94 (u32s (ws.set j x)) := by
  subst hx; rw [← u32s_set]; exact h.set _ _
theorem val_int {k : IntKind} {a b : Int} (h : a = b) : Value.int k a = Value.int k b := by rw [h]
theorem madeCells_u32 (n : Nat) : madeCells #[Value.int .u32 0] n = (u32s (List.replicate n 0)).toArray := by
  apply Array.ext'
  simp only [madeCells, u32s, Array.toList_map, Array.toList_range, List.map_replicate]
  rw [List.eq_replicate_iff]
  constructor
  · simp
  · intro b hb
    simp only [List.mem_map] at hb
    obtain ⟨a, _, rfl⟩ := hb
    simp [Nat.mod_one]
end Go.Proofs.YtdkfdamihnieiaaGreat
end
section
/- Contracts of package whole, part 1: trim, made, Clone, FromInt64, Sign. -/
open Go Go.RowKit
namespace Go.Proofs.YtdkfdamihnieiaaGreat
open Go.Proofs

def sliceLen : Value → Nat | .slice _ n _ => n | _ => 0
theorem ret_slice {A : Option Addr} {n m c : Nat} (h : n = m) : Ending.returned (.slice A n c) = .returned (.slice A m c) := by rw [h]

theorem ret_int {k : IntKind} {a b : Int} (h : a = b) : Ending.returned (.int k a) = .returned (.int k b) := by rw [h]
theorem ret_bool {a b : Bool} (h : a = b) : Ending.returned (.bool a) = .returned (.bool b) := by rw [h]
theorem trim_rd {ok w A c ws} (h : Rd ok w A c ws) : Calls Tryz.prog 173 #[.slice A ws.length c] w fun e w' =>
    e = .returned (.slice A (dg (wv ws)).length c) ∧ Rd ok w' A c (dg (wv ws)) ∧ w = w' := by
  have hm := h.len
  have hcap := h.cap
  go_enter Tryz.func173, Tryz.ntmps173
  go_wp2
  go_loop [0] (fun i => ∃ k : Nat, k ≤ ws.length ∧ Hid (wv (ws.drop k) = 0) ∧ i = .slice A k c) (fun i => sliceLen i)
  case atStart => exact ⟨_, Nat.le_refl _, by unfold Hid; simp [wv], rfl⟩
  case round =>
    obtain ⟨k, hk, ht, rfl⟩ := hrel
    cases k with
    | zero =>
      go_wp2
      go_ret
      have h1 := take_dg h.okw 0 (Nat.zero_le _) ht.out (.inl rfl)
      rw [← h1]
      exact ⟨rfl, h.take 0, rfl⟩
    | succ k =>
      obtain ⟨b, o, rfl, hok, hcell⟩ := h.cells (by omega)
      have hck := hcell k (by omega)
      clear hcell
      by_cases hz : wd ws k = 0
      · rw [hz] at hck
        have hz' := Lib.hid hz
        clear hz
        go_wp2
        refine ⟨⟨k, by omega, ?_, rfl⟩, by simp [sliceLen]⟩
        unfold Hid at *
        rw [wv_drop ws k (by omega), ht]
        unfold wd at hz'
        omega
      · have hz1 : (wd ws k == 0) = false := by simpa using hz
        go_wp2
        go_ret
        have h1 := take_dg h.okw (k + 1) hk ht.out (.inr (by unfold wd at hz; simp only [Nat.add_sub_cancel]; omega))
        have h2 : (dg (wv ws)).length = k + 1 := by rw [← h1, List.length_take]; omega
        rw [h2]
        refine ⟨rfl, ?_, rfl⟩
        rw [← h1]; exact h.take (k + 1)

theorem trim_c {ok w v ws} (h : Wd ok w v ws) : Calls Tryz.prog 173 #[v] w fun e w' => ∃ A l c, e = .returned (.slice A l c) ∧ Wd ok w' (.slice A l c) (dg (wv ws)) ∧ w = w' := by
  obtain ⟨A, c, rfl, h⟩ := h
  exact (trim_rd h).mono fun e w' ⟨h1, h2, h3⟩ => ⟨A, _, c, h1, Wd.mk h2 rfl, h3⟩
theorem isZc_mk {ok w v n ws z B} (hw : Wd ok w v (dg (wv ws))) (hz : sg n (wv ws) = z) (hB : wv ws < pw B) : isZc ok w (.agg #[.bool (n && decide (0 < wv ws)), v]) z B := by
  subst hz
  exact ⟨v, by rw [sg_neg_iff], by rw [sg_natAbs]; exact hw, by rw [sg_natAbs]; exact dg_length hB⟩
theorem made_c {ok w v ws z B} (n : Bool) (h : Wd ok w v ws) (hz : sg n (wv ws) = z) (hB : wv ws < pw B) : Calls Tryz.prog 171 #[.bool n, v] w (RetZ w ok z B) := by
  obtain ⟨A, c, rfl, h⟩ := h
  cases n with
  | false =>
    go_enter Tryz.func171, Tryz.ntmps171
    go_wp2_with (go_at_call 173; (with_reducible refine (trim_rd h.al).mono ?_); rintro e w1 ⟨rfl, hv1, rfl⟩)
    refine bodyPost_ret (v := .agg #[.bool false, .slice A (dg (wv ws)).length c]) ?_ rfl ?_
    · simp [results, Tryz.results171, go_sem]
    · exact RetZ.mk (bal (b0 _)) (isZc_mk (n := false) (Wd.mk h.trim.al rfl) hz hB)
  | true =>
    go_enter Tryz.func171, Tryz.ntmps171
    go_wp2_with (go_at_call 173; (with_reducible refine (trim_rd h.al).mono ?_); rintro e w1 ⟨rfl, hv1, rfl⟩)
    refine bodyPost_ret (v := .agg #[.bool (decide (0 < (dg (wv ws)).length)), .slice A (dg (wv ws)).length c]) ?_ rfl ?_
    · simp [results, Tryz.results171, go_sem]
    · exact RetZ.mk (bal (b0 _)) (by rw [dg_dec]; exact isZc_mk (n := true) (Wd.mk h.trim.al rfl) hz hB)
theorem Wd.two64 {W : World} {x n : Nat} (h : x < 18446744073709551616) (hn : W.heap.size = n := by simp) : Wd (fun k => k = n) (W.alloc (.cells #[.int .u32 ((x : Int) % 4294967296), .int .u32 ((x : Int) / 4294967296)] 94)) (.slice (some ⟨n, 0, none⟩) 2 2) [x % 4294967296, x / 4294967296] :=
  Wd.mk (Rd.two64 h hn) rfl
theorem u64_abs {z : Int} (h1 : -9223372036854775808 ≤ z) (hz : z < 0) : IntKind.u64.wrap (-IntKind.u64.wrap z) = (z.natAbs : Int) := by
  simp only [IntKind.wrap, IntKind.bits, IntKind.signed]
  simp
  omega
theorem u64_pos {z : Int} (h1 : z ≤ 9223372036854775807) (hz : ¬ z < 0) : IntKind.u64.wrap z = (z.natAbs : Int) := by
  simp only [IntKind.wrap, IntKind.bits, IntKind.signed]
  simp
  omega
theorem fromInt64_c {w} (z : Int) (h1 : -9223372036854775808 ≤ z) (h2 : z ≤ 9223372036854775807) : Calls Tryz.prog 117 #[.int .i64 z] w (RetZ w (fresh w) z 2) := by
  have hlt : z.natAbs < 18446744073709551616 := by omega
  have hz2 : ∀ n, n = decide (z < 0) → sg n (wv [z.natAbs % 4294967296, z.natAbs / 4294967296]) = z := by
    rintro _ rfl
    rw [wv_two, show z.natAbs % 4294967296 + 4294967296 * (z.natAbs / 4294967296) = z.natAbs by omega, sg_abs]
  have Hz2 := Lib.hid hz2
  clear hz2
  have hB : wv [z.natAbs % 4294967296, z.natAbs / 4294967296] < pw 2 := by rw [wv_two]; simp only [pw]; omega
  obtain ⟨z0, z1, _⟩ := z2 w.heap.size
  by_cases hz : z < 0
  · have hu := u64_abs h1 hz
    have Hn := Lib.hid (Hz2.out true (by simp [hz]))
    go_enter Tryz.func117, Tryz.ntmps117
    go_wp2_with (go_at_call 171; (with_reducible refine Calls.mono (made_c (B := 2) true (Wd.two64 hlt) Hn.out hB) ?_); rintro e w1 ⟨n1, A1, l1, c1, rfl, hb1, hr1⟩; obtain ⟨B1, k1, f1⟩ := (Bx.refl (n := w.heap.size + 2) _ (by simp)).go hb1)
    refine bodyPost_ret (v := .agg #[.bool n1, .slice A1 l1 c1]) ?_ rfl ?_
    · simp [results, Tryz.results117, go_sem, k1]
    · exact RetZ.box (bthen (bal (bal (b0 _))) hb1) (Nat.le_refl _) hr1 (by simp) (by simp)
  · have hu := u64_pos h2 hz
    have Hn := Lib.hid (Hz2.out false (by simp [hz]))
    go_enter Tryz.func117, Tryz.ntmps117
    go_wp2_with (go_at_call 171; (with_reducible refine Calls.mono (made_c (B := 2) false (Wd.two64 hlt) Hn.out hB) ?_); rintro e w1 ⟨n1, A1, l1, c1, rfl, hb1, hr1⟩; obtain ⟨B1, k1, f1⟩ := (Bx.refl (n := w.heap.size + 2) _ (by simp)).go hb1)
    refine bodyPost_ret (v := .agg #[.bool n1, .slice A1 l1 c1]) ?_ rfl ?_
    · simp [results, Tryz.results117, go_sem, k1]
    · exact RetZ.box (bthen (bal (bal (b0 _))) hb1) (Nat.le_refl _) hr1 (by simp) (by simp)

theorem sign_c {ok w v z B} (h : isZ ok w v z B) : Calls Tryz.prog 121 #[v] w fun e w' => e = .returned (.int .i64 z.sign) ∧ Below w.heap.size w w' := by
  obtain ⟨n, A, l, c, rfl⟩ := h.shape
  obtain ⟨ws, hw, hl, hz⟩ := h.parts
  have Hz := Lib.hid hz
  clear hz
  have hw1 := hw.below (bal (b0 w) (o := .cells #[.bool n, .slice A l c] 42))
  by_cases h0 : (dg (wv ws)).length = 0
  · have h00 : wv ws = 0 := by have := (dg_length_pos (n := wv ws)); omega
    have hs : Hid (z.sign = 0) := by unfold Hid; rw [Hz.out, h00]; cases n <;> rfl
    clear h00
    go_enter Tryz.func121, Tryz.ntmps121
    go_wp2_with (go_at_call 173; (with_reducible refine Calls.mono (trim_c hw1) ?_); rintro e w1 ⟨A1, l1, c1, rfl, h1, rfl⟩; obtain rfl : l1 = 0 := h1.len_eq.trans h0; clear h0)
    go_ret
    exact ⟨ret_int hs.out.symm, bal (b0 _)⟩
  · have h00 : wv ws ≠ 0 := by have := (dg_length_pos (n := wv ws)); omega
    cases n with
    | true =>
      have hs : Hid (z.sign = -1) := by unfold Hid; rw [Hz.out]; unfold sg; exact Int.sign_eq_neg_one_of_neg (by simp; omega)
      go_enter Tryz.func121, Tryz.ntmps121
      go_wp2_with (go_at_call 173; (with_reducible refine Calls.mono (trim_c hw1) ?_); rintro e w1 ⟨A1, l1, c1, rfl, h1, rfl⟩; have h2 := h1.len_eq; have h3 : ((l1 : Int) == 0) = false := (by simp; omega); clear h2)
      go_ret
      exact ⟨ret_int hs.out.symm, bal (b0 _)⟩
    | false =>
      have hs : Hid (z.sign = 1) := by unfold Hid; rw [Hz.out]; unfold sg; exact Int.sign_eq_one_of_pos (by simp; omega)
      go_enter Tryz.func121, Tryz.ntmps121
      go_wp2_with (go_at_call 173; (with_reducible refine Calls.mono (trim_c hw1) ?_); rintro e w1 ⟨A1, l1, c1, rfl, h1, rfl⟩; have h2 := h1.len_eq; have h3 : ((l1 : Int) == 0) = false := (by simp; omega); clear h2)
      go_ret
      exact ⟨ret_int hs.out.symm, bal (b0 _)⟩
end Go.Proofs.YtdkfdamihnieiaaGreat
end
