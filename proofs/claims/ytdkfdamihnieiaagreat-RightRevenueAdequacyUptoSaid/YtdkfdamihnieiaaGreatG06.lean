/- Rational values in memory. -/
import Derived.Test.YtdkfdamihnieiaaGreatG05
import Derived.Laws.NewBlocks
set_option linter.unusedSimpArgs false
set_option linter.unusedVariables false
section
open Go Go.RowKit
namespace Go.Proofs.YtdkfdamihnieiaaGreat
open Go.Proofs

theorem keep_start {n : Nat} {W0 : World} : ∀ b o, b < n → W0.drew.cell? ⟨b, o, none⟩ = W0.cell? ⟨b, o, none⟩ := fun _ _ _ => rfl
theorem isZ.slc {ok w n s z B} (h : isZ ok w (.agg #[.bool n, s]) z B) : ∃ A l c, s = .slice A l c := by
  obtain ⟨ws, h, _⟩ := h.parts; exact h.shape
theorem rat_parts {a b : Int} (hb : 0 < b) : ((a : Rat) / (b : Rat)).num = a / (Int.gcd a b : Int) ∧ ((((a : Rat) / (b : Rat)).den : Nat) : Int) = b / (Int.gcd a b : Int) := by
  obtain ⟨n, rfl⟩ : ∃ n : Nat, b = n := ⟨b.toNat, by omega⟩
  have hn : n ≠ 0 := by omega
  have e : ((a : Rat) / ((n : Int) : Rat)) = mkRat a n := (Rat.mkRat_eq_div a n).symm
  rw [e, Rat.num_mkRat, Rat.den_mkRat, if_neg hn, if_neg hn]
  have hg : Int.gcd a (n : Int) = n.gcd a.natAbs := by unfold Int.gcd; rw [Int.natAbs_natCast, Nat.gcd_comm]
  rw [hg]
  exact ⟨rfl, by rw [Int.natCast_ediv]⟩
/-- The value of a pair of integers. -/
def qv (a b : Int) : Rat := if b = 0 then (a : Rat) else (a : Rat) / (b : Rat)
theorem qv_zero (a : Int) : qv a 0 = a := by simp [qv]
theorem qv_pos {a b : Int} (h : b ≠ 0) : qv a b = (a : Rat) / (b : Rat) := by simp [qv, h]
theorem qv_neg {a b : Int} (h : b ≠ 0) : ((-a : Int) : Rat) / ((-b : Int) : Rat) = qv a b := by
  rw [qv_pos h]
  have : (b : Rat) ≠ 0 := by simpa using h
  rw [Rat.intCast_neg, Rat.intCast_neg]
  grind
/-- A rational as it may come in, at most B words in each part. -/
def isQ (ok : Nat → Prop) (w : World) (v : Value) (q : Rat) (B : Nat) : Prop :=
  ∃ n s m t a b, v = .agg #[.bool n, s, .bool m, t] ∧ isZ ok w (.agg #[.bool n, s]) a B ∧ isZ ok w (.agg #[.bool m, t]) b B ∧ q = qv a b
/-- A numerator and a positive denominator. -/
def isP (ok : Nat → Prop) (w : World) (v : Value) (q : Rat) (B : Nat) : Prop :=
  ∃ n s m t a b, v = .agg #[.bool n, s, .bool m, t] ∧ isZ ok w (.agg #[.bool n, s]) a B ∧ isZ ok w (.agg #[.bool m, t]) b B ∧ 0 < b ∧ q = (a : Rat) / (b : Rat)
/-- The denominator's integer in canonical form. -/
def qd (q : Rat) : Int := if q.den = 1 then 0 else (q.den : Int)
/-- A rational in canonical form. -/
def isQc (ok : Nat → Prop) (w : World) (v : Value) (q : Rat) : Prop :=
  ∃ n s m t B, v = .agg #[.bool n, s, .bool m, t] ∧ isZc ok w (.agg #[.bool n, s]) q.num B ∧ isZc ok w (.agg #[.bool m, t]) (qd q) B
/-- The size of a rational. -/
def qB (q : Rat) (B : Nat) : Prop := q.num.natAbs < pw B ∧ q.den < pw B
theorem isQ.shape {ok w v q B} (h : isQ ok w v q B) : ∃ n A l c m A2 l2 c2, v = .agg #[.bool n, .slice A l c, .bool m, .slice A2 l2 c2] := by
  obtain ⟨n, s, m, t, a, b, rfl, h1, h2, _⟩ := h
  obtain ⟨A, l, c, rfl⟩ := h1.slc
  obtain ⟨A2, l2, c2, rfl⟩ := h2.slc
  exact ⟨_, _, _, _, _, _, _, _, rfl⟩
theorem isP.shape {ok w v q B} (h : isP ok w v q B) : ∃ n A l c m A2 l2 c2, v = .agg #[.bool n, .slice A l c, .bool m, .slice A2 l2 c2] := by
  obtain ⟨n, s, m, t, a, b, rfl, h1, h2, _⟩ := h
  obtain ⟨A, l, c, rfl⟩ := h1.slc
  obtain ⟨A2, l2, c2, rfl⟩ := h2.slc
  exact ⟨_, _, _, _, _, _, _, _, rfl⟩
theorem isQc.shape {ok w v q} (h : isQc ok w v q) : ∃ n A l c m A2 l2 c2, v = .agg #[.bool n, .slice A l c, .bool m, .slice A2 l2 c2] := by
  obtain ⟨n, s, m, t, B, rfl, h1, h2⟩ := h
  obtain ⟨A, l, c, rfl⟩ := h1.z.slc
  obtain ⟨A2, l2, c2, rfl⟩ := h2.z.slc
  exact ⟨_, _, _, _, _, _, _, _, rfl⟩
theorem agg4 {a b c d a' b' c' d' : Value} (h : Value.agg #[a, b, c, d] = .agg #[a', b', c', d']) : a = a' ∧ b = b' ∧ c = c' ∧ d = d' := by
  simp only [Value.agg.injEq] at h
  have e1 := congrArg (fun a => a[0]!) h
  have e2 := congrArg (fun a => a[1]!) h
  have e3 := congrArg (fun a => a[2]!) h
  have e4 := congrArg (fun a => a[3]!) h
  simpa using And.intro e1 (And.intro e2 (And.intro e3 e4))
theorem isQ.parts {ok w n s m t q B} (h : isQ ok w (.agg #[.bool n, s, .bool m, t]) q B) : ∃ a b, isZ ok w (.agg #[.bool n, s]) a B ∧ isZ ok w (.agg #[.bool m, t]) b B ∧ q = qv a b := by
  obtain ⟨_, _, _, _, a, b, e, h1, h2, h3⟩ := h
  obtain ⟨e1, rfl, e2, rfl⟩ := agg4 e
  injection e1 with e1; injection e2 with e2; subst e1 e2
  exact ⟨a, b, h1, h2, h3⟩
theorem isP.parts {ok w n s m t q B} (h : isP ok w (.agg #[.bool n, s, .bool m, t]) q B) : ∃ a b, isZ ok w (.agg #[.bool n, s]) a B ∧ isZ ok w (.agg #[.bool m, t]) b B ∧ 0 < b ∧ q = (a : Rat) / (b : Rat) := by
  obtain ⟨_, _, _, _, a, b, e, h1, h2, h3⟩ := h
  obtain ⟨e1, rfl, e2, rfl⟩ := agg4 e
  injection e1 with e1; injection e2 with e2; subst e1 e2
  exact ⟨a, b, h1, h2, h3⟩
theorem isQc.parts {ok w n s m t q} (h : isQc ok w (.agg #[.bool n, s, .bool m, t]) q) : ∃ B, isZc ok w (.agg #[.bool n, s]) q.num B ∧ isZc ok w (.agg #[.bool m, t]) (qd q) B := by
  obtain ⟨_, _, _, _, B, e, h1, h2⟩ := h
  obtain ⟨e1, rfl, e2, rfl⟩ := agg4 e
  injection e1 with e1; injection e2 with e2; subst e1 e2
  exact ⟨B, h1, h2⟩
theorem isQ.below {ok w w' v q B} (h : isQ ok w v q B) (hb : Below w.heap.size w w') : isQ ok w' v q B := by
  obtain ⟨n, s, m, t, a, b, e, h1, h2, h3⟩ := h; exact ⟨n, s, m, t, a, b, e, h1.below hb, h2.below hb, h3⟩
theorem isP.below {ok w w' v q B} (h : isP ok w v q B) (hb : Below w.heap.size w w') : isP ok w' v q B := by
  obtain ⟨n, s, m, t, a, b, e, h1, h2, h3⟩ := h; exact ⟨n, s, m, t, a, b, e, h1.below hb, h2.below hb, h3⟩
theorem isQc.below {ok w w' v q} (h : isQc ok w v q) (hb : Below w.heap.size w w') : isQc ok w' v q := by
  obtain ⟨n, s, m, t, B, e, h1, h2⟩ := h; exact ⟨n, s, m, t, B, e, h1.below hb, h2.below hb⟩
theorem isQ.set {ok w v q B} (h : isQ ok w v q B) {a : Addr} {u} (hn : ¬ ok a.block) : isQ ok (w.setCell a u) v q B := by
  obtain ⟨n, s, m, t, a, b, e, h1, h2, h3⟩ := h; exact ⟨n, s, m, t, a, b, e, h1.set hn, h2.set hn, h3⟩
theorem isP.set {ok w v q B} (h : isP ok w v q B) {a : Addr} {u} (hn : ¬ ok a.block) : isP ok (w.setCell a u) v q B := by
  obtain ⟨n, s, m, t, a, b, e, h1, h2, h3⟩ := h; exact ⟨n, s, m, t, a, b, e, h1.set hn, h2.set hn, h3⟩
theorem isQc.set {ok w v q} (h : isQc ok w v q) {a : Addr} {u} (hn : ¬ ok a.block) : isQc ok (w.setCell a u) v q := by
  obtain ⟨n, s, m, t, B, e, h1, h2⟩ := h; exact ⟨n, s, m, t, B, e, h1.set hn, h2.set hn⟩
theorem isQ.mono {ok ok' : Nat → Prop} {w v q B B'} (h : isQ ok w v q B) (hk : ∀ b, b < w.heap.size → ok b → ok' b) (hB : B ≤ B') : isQ ok' w v q B' := by
  obtain ⟨n, s, m, t, a, b, e, h1, h2, h3⟩ := h; exact ⟨n, s, m, t, a, b, e, h1.mono hk hB, h2.mono hk hB, h3⟩
theorem isP.mono {ok ok' : Nat → Prop} {w v q B B'} (h : isP ok w v q B) (hk : ∀ b, b < w.heap.size → ok b → ok' b) (hB : B ≤ B') : isP ok' w v q B' := by
  obtain ⟨n, s, m, t, a, b, e, h1, h2, h3⟩ := h; exact ⟨n, s, m, t, a, b, e, h1.mono hk hB, h2.mono hk hB, h3⟩
theorem isQc.mono {ok ok' : Nat → Prop} {w v q} (h : isQc ok w v q) (hk : ∀ b, b < w.heap.size → ok b → ok' b) : isQc ok' w v q := by
  obtain ⟨n, s, m, t, B, e, h1, h2⟩ := h; exact ⟨n, s, m, t, B, e, h1.mono hk (Nat.le_refl _), h2.mono hk (Nat.le_refl _)⟩
theorem qv_self (q : Rat) : q = qv q.num (qd q) := by
  unfold qv qd
  by_cases h : q.den = 1
  · simp only [h, if_true]
    have := Rat.num_divInt_den q
    rw [Rat.divInt_eq_div, h] at this
    have e : ((1 : Nat) : Int) = 1 := rfl
    rw [e] at this
    simp only [Rat.intCast_one] at this
    grind
  · have h2 : (q.den : Int) ≠ 0 := by have := q.den_nz; omega
    simp only [h, if_false, h2]
    have := Rat.num_divInt_den q
    rw [Rat.divInt_eq_div] at this
    exact this.symm
theorem qd_lt {q : Rat} {B : Nat} (h : qB q B) : (qd q).natAbs < pw B := by
  unfold qd; split
  · have := h.1; simp; omega
  · simpa using h.2
theorem isQc.q {ok w v q} (h : isQc ok w v q) {B : Nat} (hB : qB q B) : isQ ok w v q B := by
  obtain ⟨n, s, m, t, B', e, h1, h2⟩ := h
  exact ⟨n, s, m, t, _, _, e, (h1.le hB.1).z, (h2.le (qd_lt hB)).z, qv_self q⟩
theorem isQc.zero {ok w} : isQc ok w (.agg #[.bool false, .slice none 0 0, .bool false, .slice none 0 0]) 0 :=
  ⟨_, _, _, _, 0, rfl, isZc.zero, isZc.zero⟩
theorem qB_zero {B : Nat} (h : 0 < B) : qB 0 B := by
  have : pw 1 ≤ pw B := pw_mono h
  rw [pw_one] at this
  exact ⟨by show (0 : Rat).num.natAbs < _; simp; omega, by show (0 : Rat).den < _; simp; omega⟩
theorem qB.mono {q B B'} (h : qB q B) (hB : B ≤ B') : qB q B' := ⟨Nat.lt_of_lt_of_le h.1 (pw_mono hB), Nat.lt_of_lt_of_le h.2 (pw_mono hB)⟩
theorem qB_div {a b : Int} {B : Nat} (ha : a.natAbs < pw B) (hb : 0 < b) (hb2 : b.natAbs < pw B) : qB ((a : Rat) / (b : Rat)) B := by
  obtain ⟨e1, e2⟩ := rat_parts (a := a) hb
  constructor
  · rw [e1]
    refine Nat.lt_of_le_of_lt ?_ ha
    rw [Int.natAbs_ediv_of_dvd (Int.gcd_dvd_left _ _)]
    exact Nat.div_le_self _ _
  · have : ((a : Rat) / (b : Rat)).den ≤ b.natAbs := by
      have : ((((a : Rat) / (b : Rat)).den : Nat) : Int) ≤ b := by rw [e2]; exact Int.ediv_le_self _ (by omega)
      omega
    omega
theorem isP.size {ok w v q B} (h : isP ok w v q B) : qB q B := by
  obtain ⟨n, s, m, t, a, b, rfl, h1, h2, h3, rfl⟩ := h
  exact qB_div h1.bound h3 h2.bound
theorem qB_neg {q B} (h : qB q B) : qB (-q) B := by
  unfold qB; rw [Rat.neg_num, Rat.neg_den, Int.natAbs_neg]; exact h
theorem rat_eq (q : Rat) : q = (q.num : Rat) / ((q.den : Int) : Rat) := by
  have := Rat.num_divInt_den q
  rw [Rat.divInt_eq_div] at this
  exact this.symm
theorem isQ.size {ok w v q B} (h : isQ ok w v q B) (hB : 0 < B) : qB q B := by
  obtain ⟨n, s, m, t, a, b, rfl, h1, h2, rfl⟩ := h
  have hp : (1 : Int).natAbs < pw B := by have := pw_mono hB; rw [pw_one] at this; simp; omega
  by_cases h0 : b = 0
  · subst h0
    rw [qv_zero, show (a : Rat) = (a : Rat) / ((1 : Int) : Rat) by simp; grind]
    exact qB_div h1.bound (by omega) hp
  · by_cases hn : 0 < b
    · rw [qv_pos h0]; exact qB_div h1.bound hn h2.bound
    · rw [← qv_neg h0]
      exact qB_div (by rw [Int.natAbs_neg]; exact h1.bound) (by omega) (by rw [Int.natAbs_neg]; exact h2.bound)
theorem pw_pos' (B : Nat) : 0 < pw B := by unfold pw; exact Nat.pow_pos (by omega)
theorem qB_mul {p q A B} (h1 : qB p A) (h2 : qB q B) : qB (p * q) (A + B) := by
  have e : p * q = ((p.num * q.num : Int) : Rat) / (((p.den : Int) * (q.den : Int) : Int) : Rat) := by
    conv => lhs; rw [rat_eq p, rat_eq q]
    have a1 : ((p.den : Int) : Rat) ≠ 0 := by have := p.den_nz; simpa using this
    have a2 : ((q.den : Int) : Rat) ≠ 0 := by have := q.den_nz; simpa using this
    rw [Rat.intCast_mul, Rat.intCast_mul]; grind
  rw [e]
  have hp : 0 < (p.den : Int) * (q.den : Int) := Int.mul_pos (by have := p.den_nz; omega) (by have := q.den_nz; omega)
  refine qB_div ?_ hp ?_
  · rw [Int.natAbs_mul]; exact pw_mul_lt h1.1 h2.1
  · rw [Int.natAbs_mul]; exact pw_mul_lt h1.2 h2.2
theorem qB_add {p q A B} (h1 : qB p A) (h2 : qB q B) : qB (p + q) (A + B + 1) := by
  have e : p + q = ((p.num * q.den + q.num * p.den : Int) : Rat) / (((p.den : Int) * (q.den : Int) : Int) : Rat) := by
    conv => lhs; rw [rat_eq p, rat_eq q]
    have a1 : ((p.den : Int) : Rat) ≠ 0 := by have := p.den_nz; simpa using this
    have a2 : ((q.den : Int) : Rat) ≠ 0 := by have := q.den_nz; simpa using this
    simp only [Rat.intCast_mul, Rat.intCast_add]; grind
  rw [e]
  have hp : 0 < (p.den : Int) * (q.den : Int) := Int.mul_pos (by have := p.den_nz; omega) (by have := q.den_nz; omega)
  have b1 := pw_mul_lt h1.1 h2.2
  have b2 := pw_mul_lt h1.2 h2.1
  have b3 := pw_mul_lt h1.2 h2.2
  refine qB_div ?_ hp ?_
  · refine Nat.lt_of_le_of_lt (Int.natAbs_add_le _ _) ?_
    rw [Int.natAbs_mul, Int.natAbs_mul, pw_succ]
    simp only [Int.natAbs_natCast]
    rw [Nat.mul_comm q.num.natAbs]
    omega
  · rw [Int.natAbs_mul]
    simp only [Int.natAbs_natCast]
    exact Nat.lt_of_lt_of_le b3 (pw_mono (by omega))
theorem qB_sub {p q A B} (h1 : qB p A) (h2 : qB q B) : qB (p - q) (A + B + 1) := by
  rw [Rat.sub_eq_add_neg]; exact qB_add h1 (qB_neg h2)
theorem qB_inv {q B} (h : qB q B) : qB (q⁻¹) B := by
  rcases Int.lt_trichotomy q.num 0 with hn | hn | hn
  · have e : q⁻¹ = ((-(q.den : Int) : Int) : Rat) / ((-q.num : Int) : Rat) := by
      conv => lhs; rw [rat_eq q]
      have a1 : ((q.den : Int) : Rat) ≠ 0 := by have := q.den_nz; simpa using this
      have a2 : (q.num : Rat) ≠ 0 := by have : q.num ≠ 0 := by omega
                                        simpa using this
      simp only [Rat.intCast_neg]; grind
    rw [e]
    exact qB_div (by rw [Int.natAbs_neg]; exact h.2) (by omega) (by rw [Int.natAbs_neg]; exact h.1)
  · have : q = 0 := Rat.num_eq_zero.1 hn
    subst this; rw [Rat.inv_zero]; exact h
  · have e : q⁻¹ = ((q.den : Int) : Rat) / ((q.num : Int) : Rat) := by
      conv => lhs; rw [rat_eq q]
      have a1 : ((q.den : Int) : Rat) ≠ 0 := by have := q.den_nz; simpa using this
      have a2 : (q.num : Rat) ≠ 0 := by have : q.num ≠ 0 := by omega
                                        simpa using this
      grind
    rw [e]
    exact qB_div h.2 hn h.1
theorem qB_dv {p q A B} (h1 : qB p A) (h2 : qB q B) : qB (p / q) (A + B) := by
  rw [Rat.div_def]; exact qB_mul h1 (qB_inv h2)
/-- The call returns a canonical rational. -/
def RetQ (w : World) (ok : Nat → Prop) (q : Rat) : Ending → World → Prop := fun e w' =>
  ∃ n A l c m A2 l2 c2, e = .returned (.agg #[.bool n, .slice A l c, .bool m, .slice A2 l2 c2]) ∧ Below w.heap.size w w' ∧ isQc ok w' (.agg #[.bool n, .slice A l c, .bool m, .slice A2 l2 c2]) q
/-- The call returns parts. -/
def RetP (w : World) (ok : Nat → Prop) (q : Rat) (B : Nat) : Ending → World → Prop := fun e w' =>
  ∃ n A l c m A2 l2 c2, e = .returned (.agg #[.bool n, .slice A l c, .bool m, .slice A2 l2 c2]) ∧ Below w.heap.size w w' ∧ isP ok w' (.agg #[.bool n, .slice A l c, .bool m, .slice A2 l2 c2]) q B
end Go.Proofs.YtdkfdamihnieiaaGreat
end
section
/- Contracts of package frac, part 1: of, least. -/
open Go Go.RowKit
namespace Go.Proofs.YtdkfdamihnieiaaGreat
open Go.Proofs
theorem isZ.old {ok : Nat → Prop} {w v z B} (h : isZ ok w v z B) : isZ (fun k => k < w.heap.size) w v z B := h.mono (fun _ hb _ => hb) (Nat.le_refl _)
theorem isQ.old {ok : Nat → Prop} {w v z B} (h : isQ ok w v z B) : isQ (fun k => k < w.heap.size) w v z B := h.mono (fun _ hb _ => hb) (Nat.le_refl _)
theorem isP.old {ok : Nat → Prop} {w v z B} (h : isP ok w v z B) : isP (fun k => k < w.heap.size) w v z B := h.mono (fun _ hb _ => hb) (Nat.le_refl _)
theorem isQ.both {ok : Nat → Prop} {w v z B} (h : isQ ok w v z B) : isQ (fun k => ok k ∧ k < w.heap.size) w v z B := h.mono (fun _ hb hk => ⟨hk, hb⟩) (Nat.le_refl _)
theorem isZ.any {ok : Nat → Prop} {w v z B B'} (h : isZ ok w v z B) (hB : B ≤ B') : isZ (fun _ => True) w v z B' := h.mono (fun _ _ _ => trivial) hB
theorem isP.any {ok : Nat → Prop} {w v z B} (h : isP ok w v z B) : isP (fun _ => True) w v z B := h.mono (fun _ _ _ => trivial) (Nat.le_refl _)
theorem isQ.any {ok : Nat → Prop} {w v z B B'} (h : isQ ok w v z B) (hB : B ≤ B') : isQ (fun _ => True) w v z B' := h.mono (fun _ _ _ => trivial) hB
theorem sign_zero {z : Int} (h : z = 0) : z.sign = 0 := by subst h; rfl
theorem b4set {w W : World} (h : Below w.heap.size w W) {b : Nat} (hb : w.heap.size ≤ b) {x y z u : Value} : Below w.heap.size w ((((W.setCell ⟨b, 0, none⟩ x).setCell ⟨b, 1, none⟩ y).setCell ⟨b, 2, none⟩ z).setCell ⟨b, 3, none⟩ u) :=
  bset (bset (bset (bset h hb) hb) hb) hb
theorem isZ.set4 {ok w v z B} (h : isZ ok w v z B) {b : Nat} (hn : ¬ ok b) {x y s u : Value} : isZ ok ((((w.setCell ⟨b, 0, none⟩ x).setCell ⟨b, 1, none⟩ y).setCell ⟨b, 2, none⟩ s).setCell ⟨b, 3, none⟩ u) v z B := (((h.set hn).set hn).set hn).set hn
theorem isZc.set4 {ok w v z B} (h : isZc ok w v z B) {b : Nat} (hn : ¬ ok b) {x y s u : Value} : isZc ok ((((w.setCell ⟨b, 0, none⟩ x).setCell ⟨b, 1, none⟩ y).setCell ⟨b, 2, none⟩ s).setCell ⟨b, 3, none⟩ u) v z B := (((h.set hn).set hn).set hn).set hn
theorem isP.set4 {ok w v z B} (h : isP ok w v z B) {b : Nat} (hn : ¬ ok b) {x y s u : Value} : isP ok ((((w.setCell ⟨b, 0, none⟩ x).setCell ⟨b, 1, none⟩ y).setCell ⟨b, 2, none⟩ s).setCell ⟨b, 3, none⟩ u) v z B := (((h.set hn).set hn).set hn).set hn
theorem isQc.set4 {ok w v q} (h : isQc ok w v q) {b : Nat} (hn : ¬ ok b) {x y s u : Value} : isQc ok ((((w.setCell ⟨b, 0, none⟩ x).setCell ⟨b, 1, none⟩ y).setCell ⟨b, 2, none⟩ s).setCell ⟨b, 3, none⟩ u) v q := (((h.set hn).set hn).set hn).set hn
set_option maxRecDepth 100000 in
set_option maxHeartbeats 2000000 in
theorem of_c {ok w v q B} (h : isQ ok w v q B) (hB : 0 < B) (hB2 : B ≤ 900000000) : Calls Tryz.prog 91 #[v] w (RetP w (fun k => ok k ∨ w.heap.size ≤ k) q B) := by
  obtain ⟨n1, A1, l1, c1, m1, D1, e1, g1, rfl⟩ := h.shape
  obtain ⟨a, b, ha, hb, hq⟩ := h.both.parts
  have hsz : ¬ (ok (w.heap.size + 1) ∧ w.heap.size + 1 < w.heap.size) := by omega
  obtain ⟨z0, z1, z2, z3, z4⟩ := z3 w.heap.size
  rcases Int.lt_trichotomy b 0 with hs | hs | hs
  · have hsg := Int.sign_eq_neg_one_of_neg hs
    go_enter Tryz.func91, Tryz.ntmps91
    go_wp2_with (go_at_call 121; (with_reducible refine Calls.mono (sign_c (hb.below (bal (bal (b0 _))))) ?_); rintro e w1 ⟨rfl, hb1⟩; rw [hsg]; have B1 := Bx.step (Bx.refl (n := w.heap.size + 2) ((w.alloc (Obj.cells #[Value.bool n1, .slice A1 l1 c1, .bool m1, .slice D1 e1 g1] 44)).alloc (Obj.cells #[Value.bool false, .slice none 0 0, .bool false, .slice none 0 0] 107)) (by simp)) hb1; have k1 := B1.cell)
    go_region_held3 (fun w' => ∀ b o, b < w.heap.size + 1 → w'.cell? ⟨b, o, none⟩ = ((w.alloc (Obj.cells #[Value.bool n1, .slice A1 l1 c1, .bool m1, .slice D1 e1 g1] 44)).alloc (Obj.cells #[Value.bool false, .slice none 0 0, .bool false, .slice none 0 0] 107)).cell? ⟨b, o, none⟩)
      (first
        | (with_reducible assumption)
        | (with_reducible exact keep_set4 (by assumption) (by omega) (by omega))
        | (with_reducible exact keep_set2 (by assumption) (by omega) (by omega))
        | (with_reducible exact keep_set1 (by assumption) (by omega) (by omega))
        | (with_reducible exact keep_of (by assumption) (by omega))
        | (with_reducible exact keep_dr (by assumption) (by omega))
        | (with_reducible exact keep_start)
        | (exact fun _ _ _ => rfl))
      (first
        | (go_at_call 170; (with_reducible refine Calls.mono (Neg_c (ha.below (bdr (bthen (bal (bal (b0 _))) hb1))) (by omega)) ?_); rintro e w1 ⟨n5, A5, l5, c5, rfl, hb2, hr5⟩; have B2 := Bx.step B1.dr hb2; have k2 := B2.cell)
        | (go_at_call 170; (with_reducible refine Calls.mono (Neg_c (hb.below (bthen (bdr (bthen (bal (bal (b0 _))) hb1)) hb2)) (by omega)) ?_); rintro e w1 ⟨n6, A6, l6, c6, rfl, hb3, hr6⟩; have B3 := Bx.step B2 hb3; have k3 := B3.cell; have f3 := B3.frozen))
    go_wp2
    refine bodyPost_ret (v := .agg #[.bool n5, .slice A5 l5 c5, .bool n6, .slice A6 l6 c6]) ?_ rfl ?_
    · simp [results, Tryz.results91, go_sem, k3]
    · refine ⟨n5, A5, l5, c5, n6, A6, l6, c6, rfl, b4set (bthen (bthen (bdr (bthen (bal (bal (b0 _))) hb1)) hb2) hb3) (by (first | omega | (simp; done) | (simp; omega) | (simp [fresh]; done) | (simp [fresh]; omega))), _, _, _, _, -a, -b, rfl, ((hr5.below hb3).z.set4 ?_).mono (fun k _ hk => Or.inr (by have := B1.s; simp [fresh] at *; omega)) (Nat.le_refl _), (hr6.z.set4 ?_).mono (fun k _ hk => Or.inr (by have := B2.s; simp [fresh] at *; omega)) (Nat.le_refl _), by omega, ?_⟩
      · have := B1.s; (first | omega | (simp; done) | (simp; omega) | (simp [fresh]; done) | (simp [fresh]; omega))
      · have := B2.s; (first | omega | (simp; done) | (simp; omega) | (simp [fresh]; done) | (simp [fresh]; omega))
      · rw [hq, qv_neg (by omega)]
  · subst hs
    go_enter Tryz.func91, Tryz.ntmps91
    go_wp2_with (go_at_call 121; (with_reducible refine Calls.mono (sign_c (hb.below (bal (bal (b0 _))))) ?_); rintro e w1 ⟨rfl, hb1⟩; rw [sign_zero rfl]; have B1 := Bx.step (Bx.refl (n := w.heap.size + 2) ((w.alloc (Obj.cells #[Value.bool n1, .slice A1 l1 c1, .bool m1, .slice D1 e1 g1] 44)).alloc (Obj.cells #[Value.bool false, .slice none 0 0, .bool false, .slice none 0 0] 107)) (by simp)) hb1; have k1 := B1.cell)
    go_region_held3 (fun w' => ∀ b o, b < w.heap.size + 1 → w'.cell? ⟨b, o, none⟩ = ((w.alloc (Obj.cells #[Value.bool n1, .slice A1 l1 c1, .bool m1, .slice D1 e1 g1] 44)).alloc (Obj.cells #[Value.bool false, .slice none 0 0, .bool false, .slice none 0 0] 107)).cell? ⟨b, o, none⟩)
      (first
        | (with_reducible assumption)
        | (with_reducible exact keep_set4 (by assumption) (by omega) (by omega))
        | (with_reducible exact keep_set2 (by assumption) (by omega) (by omega))
        | (with_reducible exact keep_set1 (by assumption) (by omega) (by omega))
        | (with_reducible exact keep_of (by assumption) (by omega))
        | (with_reducible exact keep_dr (by assumption) (by omega))
        | (with_reducible exact keep_start)
        | (exact fun _ _ _ => rfl))
      (first
        | (go_at_call 117; (with_reducible refine Calls.mono (fromInt64_c 1 (by omega) (by omega)) ?_); rintro e w1 ⟨n6, A6, l6, c6, rfl, hb3, hr6⟩; have B3 := Bx.step B1.dr hb3; have k3 := B3.cell; have f3 := B3.frozen))
    go_wp2
    refine bodyPost_ret (v := .agg #[.bool n1, .slice A1 l1 c1, .bool n6, .slice A6 l6 c6]) ?_ rfl ?_
    · simp [results, Tryz.results91, go_sem, k3]
    · refine ⟨n1, A1, l1, c1, n6, A6, l6, c6, rfl, b4set (bthen (bdr (bthen (bal (bal (b0 _))) hb1)) hb3) (by (first | omega | (simp; done) | (simp; omega) | (simp [fresh]; done) | (simp [fresh]; omega))), _, _, _, _, a, 1, rfl, ((ha.below (bthen (bdr (bthen (bal (bal (b0 _))) hb1)) hb3)).set4 hsz).mono (fun k _ hk => Or.inl hk.1) (Nat.le_refl _), ((hr6.le (B' := B) ?_).z.set4 ?_).mono (fun k _ hk => Or.inr (by have := B1.s; simp [fresh] at *; omega)) (Nat.le_refl _), by omega, ?_⟩
      · have := pw_mono hB; rw [pw_one] at this; simp; omega
      · have := B1.s; (first | omega | (simp; done) | (simp; omega) | (simp [fresh]; done) | (simp [fresh]; omega))
      · rw [hq, qv_zero]; simp; grind
  · have hsg := Int.sign_eq_one_of_pos hs
    go_enter Tryz.func91, Tryz.ntmps91
    go_wp2_with (go_at_call 121; (with_reducible refine Calls.mono (sign_c (hb.below (bal (bal (b0 _))))) ?_); rintro e w1 ⟨rfl, hb1⟩; rw [hsg]; have B1 := Bx.step (Bx.refl (n := w.heap.size + 2) ((w.alloc (Obj.cells #[Value.bool n1, .slice A1 l1 c1, .bool m1, .slice D1 e1 g1] 44)).alloc (Obj.cells #[Value.bool false, .slice none 0 0, .bool false, .slice none 0 0] 107)) (by simp)) hb1; have k1 := B1.cell; have f1 := B1.frozen)
    refine bodyPost_ret (v := .agg #[.bool n1, .slice A1 l1 c1, .bool m1, .slice D1 e1 g1]) ?_ rfl ?_
    · simp [results, Tryz.results91, go_sem, k1]
    · refine ⟨n1, A1, l1, c1, m1, D1, e1, g1, rfl, b4set (bthen (bal (bal (b0 _))) hb1) (by (first | omega | (simp; done) | (simp; omega) | (simp [fresh]; done) | (simp [fresh]; omega))), _, _, _, _, a, b, rfl, ((ha.below (bthen (bal (bal (b0 _))) hb1)).set4 hsz).mono (fun k _ hk => Or.inl hk.1) (Nat.le_refl _), ((hb.below (bthen (bal (bal (b0 _))) hb1)).set4 hsz).mono (fun k _ hk => Or.inl hk.1) (Nat.le_refl _), hs, ?_⟩
      rw [hq, qv_pos (by omega)]
end Go.Proofs.YtdkfdamihnieiaaGreat
end
section
/- Contracts of package frac, part 2: least. -/
open Go Go.RowKit
namespace Go.Proofs.YtdkfdamihnieiaaGreat
open Go.Proofs
theorem ys2 {h n : Nat} (hs : h + 2 ≤ n) : n ≠ h ∧ n ≠ h + 1 ∧ h ≠ n ∧ h + 1 ≠ n ∧ h < n ∧ h + 1 < n := by omega
theorem isZc.any {ok : Nat → Prop} {w v z B} (h : isZc ok w v z B) : isZc (fun _ => True) w v z B := h.mono (fun _ _ _ => trivial) (Nat.le_refl _)
theorem isZc.set2 {ok w v z B} (h : isZc ok w v z B) {b : Nat} (hn : ¬ ok b) {x y : Value} : isZc ok ((w.setCell ⟨b, 0, none⟩ x).setCell ⟨b, 1, none⟩ y) v z B := (h.set hn).set hn
theorem fresh_of {w W : World} (h : w.heap.size ≤ W.heap.size) {b : Nat} (hb : fresh W b) : fresh w b := Nat.le_trans h hb
theorem sign_one {z : Int} (h : 0 < z) : z.sign = 1 := Int.sign_eq_one_of_pos h
theorem qd_one {q : Rat} (h : (q.den : Int) = 1) : qd q = 0 := by unfold qd; rw [if_pos (by omega)]
theorem qd_big {q : Rat} (h : (q.den : Int) ≠ 1) : qd q = q.den := by unfold qd; rw [if_neg (by omega)]
theorem isZ.al {ok w v z B} (h : isZ ok w v z B) {o} : isZ ok (w.alloc o) v z B := h.below (bal (b0 _))
theorem isZ.dr {ok w v z B} (h : isZ ok w v z B) : isZ ok w.drew v z B := h.below (bdr (b0 _))
theorem isZc.al {ok w v z B} (h : isZc ok w v z B) {o} : isZc ok (w.alloc o) v z B := h.below (bal (b0 _))
theorem isZc.dr {ok w v z B} (h : isZc ok w v z B) : isZc ok w.drew v z B := h.below (bdr (b0 _))
theorem xs1 {h a b : Nat} (h1 : h + 2 ≤ a) (h2 : a + 1 ≤ b) : h < b ∧ h + 1 < b ∧ a < b ∧ h < a + 1 ∧ h + 1 < a + 1 ∧ a < a + 1 := by omega
theorem xs2 {h a b c : Nat} (h1 : h + 2 ≤ a) (h2 : a + 1 ≤ b) (h3 : b + 2 ≤ c) : h < c ∧ h + 1 < c ∧ a < c ∧ b < c ∧ b + 1 < c ∧ h < b + 2 ∧ a < b + 2 ∧ b < b + 2 := by omega
theorem xs3 {h a b c d : Nat} (h1 : h + 2 ≤ a) (h2 : a + 1 ≤ b) (h3 : b + 2 ≤ c) (h4 : c + 2 ≤ d) : h < d ∧ h + 1 < d ∧ b < d ∧ c < d ∧ h + 1 < c + 2 ∧ b < c + 2 ∧ c < c + 2 ∧ h + 1 < b + 2 := by omega
set_option maxRecDepth 100000 in
set_option maxHeartbeats 2000000 in
theorem least_c {ok w v q B} (h : isP ok w v q B) (hB2 : B ≤ 900000000) : Calls Tryz.prog 169 #[v] w (RetQ w (fresh w) q) := by
  obtain ⟨n1, A1, l1, c1, m1, D1, e1, g1, rfl⟩ := h.shape
  obtain ⟨a, b, ha, hb, hpos, hq⟩ := h.old.parts
  obtain ⟨z0, z1, z4⟩ := z2 w.heap.size
  obtain ⟨hqn, hqd⟩ := rat_parts (a := a) hpos
  rw [← hq] at hqn hqd
  have hg0 : 0 < (Int.gcd a b : Int) := by
    have := Int.gcd_pos_of_ne_zero_right a (show b ≠ 0 by omega); omega
  have Hq := Lib.hid hq
  have Hqn := Lib.hid hqn
  have Hqd := Lib.hid hqd
  have hden := q.den_nz
  have Hden := Lib.hid hden
  clear hq hqn hqd h hden
  generalize hgg : (Int.gcd a b : Int) = G at *
  have HGA : Hid (G ∣ a) := by unfold Hid; rw [← hgg]; exact Int.gcd_dvd_left _ _
  have HGB : Hid (G ∣ b) := by unfold Hid; rw [← hgg]; exact Int.gcd_dvd_right _ _
  have hrx : True := trivial
  by_cases hd : (q.den : Int) = 1
  · have Hsg : Hid ((b / G - 1).sign = 0) := by unfold Hid; rw [← Hqd.out, hd]; rfl
    have HD := Lib.hid hd
    clear hd
    go_enter Tryz.func169, Tryz.ntmps169
    go_wp2_with (first
    | (go_at_call 230; (with_reducible refine Calls.mono (GCD_c (ha.below (bal (bal (b0 _)))) (hb.below (bal (bal (b0 _)))) hB2 hB2) ?_); rintro e w1 ⟨n2, A2, l2, c2, rfl, hb1, hr2⟩; rw [hgg, Nat.max_self] at hr2; have B1 := Bx.step (Bx.refl (n := w.heap.size + 2) ((w.alloc (Obj.cells #[Value.bool n1, .slice A1 l1 c1, .bool m1, .slice D1 e1 g1] 107)).alloc (Obj.cells #[Value.bool false, .slice none 0 0, .bool false, .slice none 0 0] 44)) (by simp)) hb1; have k1 := B1.cell; have f1 := B1.frozen; have s1 := B1.s; obtain ⟨_, _, _, _, y5, y6⟩ := ys2 s1; have Q1 := (bthen (bthen (bal (bal (b0 _))) hb1) (bal (o := (Obj.cells #[Value.bool n2, .slice A2 l2 c2] 42)) (b0 _))))
    | (go_at_call 231; (with_reducible refine Calls.mono (DivMod_x (ha.below Q1) hr2.z.al hB2 hB2 hg0 HGA.out) ?_); rintro e w2 ⟨n3, A3, l3, c3, n4, A4, l4, c4, rfl, hb2, hr3⟩; have B2 := Bx.step (Bx.refl (n := w1.heap.size + 1) (w1.alloc (Obj.cells #[Value.bool n2, .slice A2 l2 c2] 42)) (by simp)) hb2; have k2 := B2.cell; have f2 := B2.frozen; have s2 := B2.s; obtain ⟨u1, u2, u3, u4, u5, u6⟩ := xs1 s1 s2; have Q2 := (bthen (bthen Q1 hb2) (bal (o := (Obj.cells #[Value.bool n4, .slice A4 l4 c4] 42)) (bal (o := (Obj.cells #[Value.bool n3, .slice A3 l3 c3] 42)) (b0 _)))))
    | (go_at_call 231; (with_reducible refine Calls.mono (DivMod_x (hb.below Q2) (((hr2.z.al).below hb2).al.al) hB2 hB2 hg0 HGB.out) ?_); rintro e w3 ⟨n5, A5, l5, c5, n6, A6, l6, c6, rfl, hb3, hr5⟩; have B3 := Bx.step (Bx.refl (n := w2.heap.size + 2) ((w2.alloc (Obj.cells #[Value.bool n3, .slice A3 l3 c3] 42)).alloc (Obj.cells #[Value.bool n4, .slice A4 l4 c4] 42)) (by simp)) hb3; have k3 := B3.cell; have f3 := B3.frozen; have s3 := B3.s; obtain ⟨v1, v2, v3, v4, v5, v6, v7, v8⟩ := xs2 s1 s2 s3; have Q3 := (bthen (bthen Q2 hb3) (bal (o := (Obj.cells #[Value.bool n6, .slice A6 l6 c6] 42)) (bal (o := (Obj.cells #[Value.bool n5, .slice A5 l5 c5] 42)) (b0 _))))))
    go_region_held3 (fun w' => ∀ b o, b < w3.heap.size + 1 → w'.cell? ⟨b, o, none⟩ = ((w3.alloc (Obj.cells #[Value.bool n5, .slice A5 l5 c5] 42)).alloc (Obj.cells #[Value.bool n6, .slice A6 l6 c6] 42)).cell? ⟨b, o, none⟩)
      (first
        | (with_reducible assumption)
        | (with_reducible exact keep_set4 (by assumption) (by omega) (by omega))
        | (with_reducible exact keep_set2 (by assumption) (by omega) (by omega))
        | (with_reducible exact keep_set1 (by assumption) (by omega) (by omega))
        | (with_reducible exact keep_of (by assumption) (by omega))
        | (with_reducible exact keep_dr (by assumption) (by omega))
        | (with_reducible exact keep_start)
        | (exact fun _ _ _ => rfl))
      (first
        | (go_at_call 117; (with_reducible refine Calls.mono (fromInt64_c 1 (by omega) (by omega)) ?_); rintro e w4 ⟨n7, A7, l7, c7, rfl, hb4, hr7⟩; have B4 := Bx.step ((Bx.refl (n := w3.heap.size + 2) ((w3.alloc (Obj.cells #[Value.bool n5, .slice A5 l5 c5] 42)).alloc (Obj.cells #[Value.bool n6, .slice A6 l6 c6] 42)) (by simp)).dr) hb4; have k4 := B4.cell; clear hrx)
        | (go_at_call 92; (with_reducible refine Calls.mono (Cmp_c ((hr5.z.al.al.dr).below hb4) hr7.z (by omega) (by omega)) ?_); rintro e w5 ⟨rfl, hb5⟩; rw [Hsg.out]; have B5 := Bx.step B4 hb5; have k5 := B5.cell; have f5 := B5.frozen; have s5 := B5.s; obtain ⟨x1, x2, x3, x4, x5, x6, x7, x8⟩ := xs3 s1 s2 s3 s5))

    go_wp2
    refine bodyPost_ret (v := .agg #[.bool n3, .slice A3 l3 c3, .bool false, .slice none 0 0]) ?_ rfl ?_
    · simp [results, Tryz.results169, go_sem, k5, *]
    · have hnum := (((((hr3.al.al).below hb3).al.al.dr).below hb4).below hb5).set4 (b := w.heap.size + 1) (x := .bool n3) (y := .slice A3 l3 c3) (s := .bool false) (u := .slice none 0 0) (by (first | omega | (simp; done) | (simp; omega) | (simp [fresh]; done) | (simp [fresh]; omega)))
      refine ⟨n3, A3, l3, c3, false, none, 0, 0, rfl, b4set (bthen (bthen (bdr Q3) hb4) hb5) (by omega), _, _, _, _, B, rfl, ?_, ?_⟩
      · rw [Hqn.out]; exact hnum.mono (fun k _ hk => by simp [fresh] at *; omega) (Nat.le_refl _)
      · rw [qd_one HD.out]; exact isZc.zero
  · have Hsg : Hid ((b / G - 1).sign = 1) := by unfold Hid; rw [← Hqd.out]; exact sign_one (by have := Hden.out; omega)
    have HD := Lib.hid hd
    clear hd
    go_enter Tryz.func169, Tryz.ntmps169
    go_wp2_with (first
    | (go_at_call 230; (with_reducible refine Calls.mono (GCD_c (ha.below (bal (bal (b0 _)))) (hb.below (bal (bal (b0 _)))) hB2 hB2) ?_); rintro e w1 ⟨n2, A2, l2, c2, rfl, hb1, hr2⟩; rw [hgg, Nat.max_self] at hr2; have B1 := Bx.step (Bx.refl (n := w.heap.size + 2) ((w.alloc (Obj.cells #[Value.bool n1, .slice A1 l1 c1, .bool m1, .slice D1 e1 g1] 107)).alloc (Obj.cells #[Value.bool false, .slice none 0 0, .bool false, .slice none 0 0] 44)) (by simp)) hb1; have k1 := B1.cell; have f1 := B1.frozen; have s1 := B1.s; obtain ⟨_, _, _, _, y5, y6⟩ := ys2 s1; have Q1 := (bthen (bthen (bal (bal (b0 _))) hb1) (bal (o := (Obj.cells #[Value.bool n2, .slice A2 l2 c2] 42)) (b0 _))))
    | (go_at_call 231; (with_reducible refine Calls.mono (DivMod_x (ha.below Q1) hr2.z.al hB2 hB2 hg0 HGA.out) ?_); rintro e w2 ⟨n3, A3, l3, c3, n4, A4, l4, c4, rfl, hb2, hr3⟩; have B2 := Bx.step (Bx.refl (n := w1.heap.size + 1) (w1.alloc (Obj.cells #[Value.bool n2, .slice A2 l2 c2] 42)) (by simp)) hb2; have k2 := B2.cell; have f2 := B2.frozen; have s2 := B2.s; obtain ⟨u1, u2, u3, u4, u5, u6⟩ := xs1 s1 s2; have Q2 := (bthen (bthen Q1 hb2) (bal (o := (Obj.cells #[Value.bool n4, .slice A4 l4 c4] 42)) (bal (o := (Obj.cells #[Value.bool n3, .slice A3 l3 c3] 42)) (b0 _)))))
    | (go_at_call 231; (with_reducible refine Calls.mono (DivMod_x (hb.below Q2) (((hr2.z.al).below hb2).al.al) hB2 hB2 hg0 HGB.out) ?_); rintro e w3 ⟨n5, A5, l5, c5, n6, A6, l6, c6, rfl, hb3, hr5⟩; have B3 := Bx.step (Bx.refl (n := w2.heap.size + 2) ((w2.alloc (Obj.cells #[Value.bool n3, .slice A3 l3 c3] 42)).alloc (Obj.cells #[Value.bool n4, .slice A4 l4 c4] 42)) (by simp)) hb3; have k3 := B3.cell; have f3 := B3.frozen; have s3 := B3.s; obtain ⟨v1, v2, v3, v4, v5, v6, v7, v8⟩ := xs2 s1 s2 s3; have Q3 := (bthen (bthen Q2 hb3) (bal (o := (Obj.cells #[Value.bool n6, .slice A6 l6 c6] 42)) (bal (o := (Obj.cells #[Value.bool n5, .slice A5 l5 c5] 42)) (b0 _))))))
    go_region_held3 (fun w' => ∀ b o, b < w3.heap.size + 1 → w'.cell? ⟨b, o, none⟩ = ((w3.alloc (Obj.cells #[Value.bool n5, .slice A5 l5 c5] 42)).alloc (Obj.cells #[Value.bool n6, .slice A6 l6 c6] 42)).cell? ⟨b, o, none⟩)
      (first
        | (with_reducible assumption)
        | (with_reducible exact keep_set4 (by assumption) (by omega) (by omega))
        | (with_reducible exact keep_set2 (by assumption) (by omega) (by omega))
        | (with_reducible exact keep_set1 (by assumption) (by omega) (by omega))
        | (with_reducible exact keep_of (by assumption) (by omega))
        | (with_reducible exact keep_dr (by assumption) (by omega))
        | (with_reducible exact keep_start)
        | (exact fun _ _ _ => rfl))
      (first
        | (go_at_call 117; (with_reducible refine Calls.mono (fromInt64_c 1 (by omega) (by omega)) ?_); rintro e w4 ⟨n7, A7, l7, c7, rfl, hb4, hr7⟩; have B4 := Bx.step ((Bx.refl (n := w3.heap.size + 2) ((w3.alloc (Obj.cells #[Value.bool n5, .slice A5 l5 c5] 42)).alloc (Obj.cells #[Value.bool n6, .slice A6 l6 c6] 42)) (by simp)).dr) hb4; have k4 := B4.cell; clear hrx)
        | (go_at_call 92; (with_reducible refine Calls.mono (Cmp_c ((hr5.z.al.al.dr).below hb4) hr7.z (by omega) (by omega)) ?_); rintro e w5 ⟨rfl, hb5⟩; rw [Hsg.out]; have B5 := Bx.step B4 hb5; have k5 := B5.cell; have f5 := B5.frozen; have s5 := B5.s; obtain ⟨x1, x2, x3, x4, x5, x6, x7, x8⟩ := xs3 s1 s2 s3 s5))

    go_wp2
    refine bodyPost_ret (v := .agg #[.bool n3, .slice A3 l3 c3, .bool n5, .slice A5 l5 c5]) ?_ rfl ?_
    · simp [results, Tryz.results169, go_sem, k5, *]
    · have hnum := (((((hr3.al.al).below hb3).al.al.dr).below hb4).below hb5).set4 (b := w.heap.size + 1) (x := .bool n3) (y := .slice A3 l3 c3) (s := .bool n5) (u := .slice A5 l5 c5) (by (first | omega | (simp; done) | (simp; omega) | (simp [fresh]; done) | (simp [fresh]; omega)))
      have hden := (((hr5.al.al.dr).below hb4).below hb5).set4 (b := w.heap.size + 1) (x := .bool n3) (y := .slice A3 l3 c3) (s := .bool n5) (u := .slice A5 l5 c5) (by (first | omega | (simp; done) | (simp; omega) | (simp [fresh]; done) | (simp [fresh]; omega)))
      refine ⟨n3, A3, l3, c3, n5, A5, l5, c5, rfl, b4set (bthen (bthen (bdr Q3) hb4) hb5) (by omega), _, _, _, _, B, rfl, ?_, ?_⟩
      · rw [Hqn.out]; exact hnum.mono (fun k _ hk => by simp [fresh] at *; omega) (Nat.le_refl _)
      · rw [qd_big HD.out, Hqd.out]; exact hden.mono (fun k _ hk => by simp [fresh] at *; omega) (Nat.le_refl _)
end Go.Proofs.YtdkfdamihnieiaaGreat
end
