/- Bounds of the factors, sharper. -/
import Derived.Test.YtdkfdamihnieiaaGreatG35
set_option linter.unusedSimpArgs false
set_option linter.unusedVariables false
section
open Go Go.RowKit Go.Shelf
namespace Go.Proofs.YtdkfdamihnieiaaGreat
open Go.Proofs
theorem byQ_qB1 {l : Ln} (h1 : 1 ≤ l.x) (h2 : l.x ≤ 1000) : qB (byQ l) 1 :=
  qB_div (by rw [pw_one]; decide) (by omega) (by rw [pw_one]; omega)
theorem addM_at (m : List (List Rat)) (i k : Nat) (q : Rat) (a b : Nat) : atM (addM m i k q) a b = atM m a b ∨ (a = i ∧ b = k ∧ atM (addM m i k q) a b = atM m a b + q) := by
  unfold addM
  conv => lhs; lhs; unfold atM
  conv => rhs; rhs; rhs; lhs; unfold atM
  rw [getD_setL]
  by_cases h : i = a ∧ i < m.length
  · obtain ⟨rfl, hlt⟩ := h
    rw [if_pos ⟨rfl, hlt⟩, getD_set]
    by_cases h2 : k = b ∧ k < (m.getD i []).length
    · obtain ⟨rfl, hlt2⟩ := h2
      rw [if_pos ⟨rfl, hlt2⟩]
      exact .inr ⟨rfl, rfl, rfl⟩
    · rw [if_neg h2]; exact .inl rfl
  · rw [if_neg h]; exact .inl rfl
theorem lapS_bnd2 {m : List (List Rat)} {n B : Nat} {l : Ln} (hb : bndL m B) (hl : lnIn n l) (hne : l.f ≠ l.t) : bndL (lapS m l) (B + 2) := by
  obtain ⟨h1, h2, h3, h4, h5, h6⟩ := hl
  have hq := byQ_qB1 h5 h6
  have hq' := qB_neg hq
  have hft : l.f.toNat ≠ l.t.toNat := by omega
  intro a b
  have hab := hb a b
  unfold lapS
  rcases addM_at (addM (addM (addM m l.f.toNat l.f.toNat (byQ l)) l.t.toNat l.t.toNat (byQ l)) l.f.toNat l.t.toNat (-byQ l)) l.t.toNat l.f.toNat (-byQ l) a b with e4 | ⟨e4a, e4b, e4⟩ <;>
  rcases addM_at (addM (addM m l.f.toNat l.f.toNat (byQ l)) l.t.toNat l.t.toNat (byQ l)) l.f.toNat l.t.toNat (-byQ l) a b with e3 | ⟨e3a, e3b, e3⟩ <;>
  rcases addM_at (addM m l.f.toNat l.f.toNat (byQ l)) l.t.toNat l.t.toNat (byQ l) a b with e2 | ⟨e2a, e2b, e2⟩ <;>
  rcases addM_at m l.f.toNat l.f.toNat (byQ l) a b with e1 | ⟨e1a, e1b, e1⟩ <;>
  first
  | (exfalso; omega)
  | (rw [e4, e3, e2, e1]; first | exact hab.mono (by omega) | exact (qB_add hab hq).mono (by omega) | exact (qB_add hab hq').mono (by omega))
theorem lapM_bnd2 (n : Nat) : ∀ (ls : List Ln), (∀ l ∈ ls, lnIn n l ∧ l.f ≠ l.t) → bndL (lapM n ls) (2 * ls.length + 1) := by
  intro ls hls
  unfold lapM
  suffices ∀ (B : Nat) (m : List (List Rat)), bndL m B → bndL (ls.foldl lapS m) (2 * ls.length + B) by
    exact this 1 _ (grid_bnd (fun i k => by unfold atM; simp; exact qB_zero (by omega)) (by omega))
  induction ls with
  | nil => intro B m h3; simpa using h3
  | cons l r ih =>
    intro B m h3
    have a3 := lapS_bnd2 h3 (hls l (by simp)).1 (hls l (by simp)).2
    have b3 := ih (fun l hl => hls l (by simp [hl])) (B + 2) _ a3
    exact b3.mono (by simp; omega)
theorem tableS_bnd2 (n : Nat) (rs : List Nat) (ls : List Ln) (hls : ∀ l ∈ ls, lnIn n l ∧ l.f ≠ l.t) : bndL (tableS n rs ls) (2 * ls.length + 1) := by
  unfold tableS
  suffices ∀ (m : List (List Rat)), bndL m (2 * ls.length + 1) → bndL (rs.foldl (fun m b => m.set b (unitL n b)) m) (2 * ls.length + 1) from this _ (lapM_bnd2 n ls hls)
  induction rs with
  | nil => intro m c; exact c
  | cons r rs ih =>
    intro m c
    exact ih _ (c.set (fun k => (unit_qB n r k).mono (by omega)))
theorem inv_bnd2 {n : Nat} {ls : List Ln} {out : List Int} (h : outsS (n : Int) ls out = 0) : bndL (invL (tabF n ls out)) 328125 := by
  obtain ⟨hchk, _⟩ := outs_ok h
  obtain ⟨hn1, hn6, hll, hall⟩ := chk_ok hchk
  have htb := tableS_bnd2 n (refsS n (servL ls out)) (servL ls out) (fun l hl => ⟨lnIn_of hall (servL_mem hl), (lnok_of hall (servL_mem hl)).2.2.2.2.1⟩)
  have hto := tableS_ok n (refsS n (servL ls out)) (servL ls out) (fun l hl => lnIn_of hall (servL_mem hl))
  have hsl := servL_length ls out
  have hn : n ≤ 6 := by omega
  have h21 : bndL (tabF n ls out) 21 := htb.mono (by omega)
  refine (invL_bnd h21 (by omega)).mono ?_
  rw [show (tabF n ls out).length = n from hto.1]
  have := pow5 hn; omega
theorem facM_bnd2 {n : Nat} {ls : List Ln} {out : List Int} (h : outsS (n : Int) ls out = 0) : bndL (facM n ls out) 700000 := by
  obtain ⟨hn6, hn1, hll, hlin, _, hil⟩ := inv_bnd h
  have hib := inv_bnd2 h
  unfold facM
  refine turnS_bnd (fun b i => ?_) (by omega)
  unfold atM
  by_cases hb : b < n
  · rw [List.getD_eq_getElem?_getD (l := List.map _ _), List.getElem?_map, List.getElem?_range hb]
    simp only [Option.map_some, Option.getD_some]
    unfold colF
    rw [List.getD_eq_getElem?_getD, List.getElem?_map]
    by_cases hi : i < ls.length
    · rw [List.getElem?_range hi]
      simp only [Option.map_some, Option.getD_some]
      refine (facQ_bnd (n := n) (hlin _ ?_) (fun j => turnS_bnd (C := n) hib (by omega) b j)).mono (by omega)
      rw [List.getD_eq_getElem?_getD, List.getElem?_eq_getElem hi]; exact List.getElem_mem hi
    · rw [List.getElem?_eq_none (by simp; omega)]; exact qB_zero (by omega)
  · rw [List.getD_eq_getElem?_getD (l := List.map _ _), List.getElem?_eq_none (by simp; omega)]
    rw [List.getD_eq_getElem?_getD]; simp; exact qB_zero (by omega)
theorem flowsL_bnd2 {n : Nat} {ls : List Ln} {out : List Int} {rs : List Rt} (h : outsS (n : Int) ls out = 0) (hr : ∀ x ∈ rs, 0 ≤ x.q ∧ x.q ≤ 1000000) (hl : rs.length ≤ 12) : ∀ k, qB ((flowsL n ls out rs).getD k 0) 5000000 := by
  obtain ⟨h1, h2, _⟩ := facM_ok h
  have h3 := facM_bnd2 h
  obtain ⟨hn6, _⟩ := inv_bnd h
  intro k
  unfold flowsL
  rw [List.getD_eq_getElem?_getD, List.getElem?_map]
  by_cases hk : k < (facM n ls out).length
  · rw [List.getElem?_eq_getElem hk]
    simp only [Option.map_some, Option.getD_some]
    have hw := h2 k hk
    have hb := h3 k
    unfold atM at hb
    rw [List.getD_eq_getElem?_getD, List.getElem?_eq_getElem hk, Option.getD_some] at hw hb
    exact (dotq_bnd (A := 700000) (B := 73) (N := 6) hb (fun j => (inL_qB n rs (fun x hx => by have := hr x hx; omega) j).mono (by omega)) (by rw [hw, inL_length]; omega)).mono (by omega)
  · rw [List.getElem?_eq_none (by omega)]; exact qB_zero (by omega)
end Go.Proofs.YtdkfdamihnieiaaGreat
end
section
/- The plain law of RightRevenueAdequacy. -/
open Go Go.RowKit Go.Shelf
namespace Go.Proofs.YtdkfdamihnieiaaGreat
open Go.Proofs
theorem dotL_none (f : Nat → Rat) : dotL f (List.range 0) = 0 := rfl
theorem dotL_zeros {f : Nat → Rat} {n : Nat} (h : ∀ k, k < n → f k = 0) : dotL f (List.range n) = 0 := by
  induction n with
  | zero => rfl
  | succ n ih => rw [dotL_succ, ih (fun k hk => h k (by omega)), h n (by omega)]; grind
theorem dotL_addf (f g : Nat → Rat) (n : Nat) : dotL (fun k => f k + g k) (List.range n) = dotL f (List.range n) + dotL g (List.range n) := by
  induction n with
  | zero => rw [dotL_none, dotL_none, dotL_none]; grind
  | succ n ih => rw [dotL_succ, dotL_succ, dotL_succ, ih]; grind
theorem dotL_negf (f : Nat → Rat) (n : Nat) : dotL (fun k => -(f k)) (List.range n) = -(dotL f (List.range n)) := by
  induction n with
  | zero => rw [dotL_none, dotL_none]; grind
  | succ n ih => rw [dotL_succ, dotL_succ, ih]; grind
theorem dotL_mulf (c : Rat) (f : Nat → Rat) (n : Nat) : dotL (fun k => c * f k) (List.range n) = c * dotL f (List.range n) := by
  induction n with
  | zero => rw [dotL_none, dotL_none]; grind
  | succ n ih => rw [dotL_succ, dotL_succ, ih]; grind
theorem dotL_swap (f : Nat → Nat → Rat) (m n : Nat) : dotL (fun k => dotL (fun l => f k l) (List.range m)) (List.range n) = dotL (fun l => dotL (fun k => f k l) (List.range n)) (List.range m) := by
  induction n with
  | zero => rw [dotL_none]; exact (dotL_zeros (fun l _ => dotL_none _)).symm
  | succ n ih =>
    rw [dotL_succ, ih, ← dotL_addf]
    exact dotL_congr (fun l _ => (dotL_succ _ _).symm)
theorem dotL_le {f g : Nat → Rat} {n : Nat} (h : ∀ k, k < n → f k ≤ g k) : dotL f (List.range n) ≤ dotL g (List.range n) := by
  induction n with
  | zero => rw [dotL_none, dotL_none]; exact Rat.le_refl
  | succ n ih =>
    rw [dotL_succ, dotL_succ]
    have h1 := ih (fun k hk => h k (by omega))
    have h2 := h n (by omega)
    grind
theorem dotq_range {a b : List Rat} {n : Nat} (ha : a.length = n) (hb : b.length = n) : dotq a b = dotL (fun k => a.getD k 0 * b.getD k 0) (List.range n) := by
  unfold dotq; rw [ha, hb, Nat.max_self]
/-- The payments add up to the line prices times the flows. -/
theorem rev_law {n : Nat} {is : List Int} {bs L : List Rat} {F : List (List Rat)} {rs : List Rt} (his : is.length = n) (hin : rs.all (inr n) = true) (hw : withinS is rs = true) (hF : widthL F n) (hL : L.length = F.length) :
    totL (payL (priceL is bs F L) rs) = dotq L (F.map fun row => dotq row (inL n rs)) := by
  have hpl : (priceL is bs F L).length = n := by rw [priceL_length, his]
  have hll : (levL bs is n).length = n := levL_length _ _ _
  have h1 := total_rent (ps := priceL is bs F L) (rs := rs) (by rw [hpl]; exact hin)
  have h2 := total_rent (ps := levL bs is n) (rs := rs) (by rw [hll]; exact hin)
  rw [hpl] at h1
  rw [hll] at h2
  have hi := inL_length n rs
  have hg : ∀ t, t < n → (levL bs is n).getD t 0 = atI bs (is.getD t 0) := fun t ht => by
    unfold levL; rw [List.getD_eq_getElem?_getD, List.getElem?_map, List.getElem?_range ht]; rfl
  have h3 : totL (payL (levL bs is n) rs) = 0 := by
    have : ∀ q ∈ payL (levL bs is n) rs, q = 0 := by
      intro q hq
      unfold payL at hq
      obtain ⟨j, hj, rfl⟩ := List.mem_map.1 hq
      have hj2 := List.mem_range.1 hj
      have hm : rs.getD j Rt.zero ∈ rs := by rw [List.getD_eq_getElem?_getD, List.getElem?_eq_getElem hj2]; exact List.getElem_mem _
      obtain ⟨a1, a2, a3, a4⟩ := inr_range (List.all_eq_true.1 hin _ hm)
      have hwj := List.all_eq_true.1 hw _ hm
      simp only [beq_iff_eq] at hwj
      unfold payF
      rw [hg _ (show (rs.getD j Rt.zero).t.toNat < n by omega), hg _ (show (rs.getD j Rt.zero).f.toNat < n by omega)]
      rw [hwj]; grind
    have key : ∀ l : List Rat, (∀ q ∈ l, q = 0) → ∀ a : Rat, l.foldl (· + ·) a = a := by
      intro l
      induction l with
      | nil => intro _ a; rfl
      | cons x r ih =>
        intro h a
        rw [List.foldl_cons, ih (fun q hq => h q (by simp [hq])), h x (by simp)]; grind
    exact key _ this 0
  have h4 : dotq (levL bs is n) (inL n rs) = 0 := by rw [h3] at h2; grind
  rw [h1, dotq_range hpl hi]
  rw [dotq_range hll hi] at h4
  have h5 : dotL (fun k => (priceL is bs F L).getD k 0 * (inL n rs).getD k 0) (List.range n) = dotL (fun k => (levL bs is n).getD k 0 * (inL n rs).getD k 0 + -(jamE F L k * (inL n rs).getD k 0)) (List.range n) := by
    refine dotL_congr (fun k hk => ?_)
    rw [priceL_getD _ _ _ _ (by omega)]
    rw [hg k hk]; grind
  rw [h5, dotL_addf, h4, dotL_negf]
  have h6 : dotL (fun k => jamE F L k * (inL n rs).getD k 0) (List.range n) = dotL (fun k => dotL (fun l => L.getD l 0 * ((F.getD l []).getD k 0 * (inL n rs).getD k 0)) (List.range F.length)) (List.range n) := by
    refine dotL_congr (fun k _ => ?_)
    unfold jamE
    rw [Rat.mul_comm, ← dotL_mulf]
    refine dotL_congr (fun l _ => ?_)
    rw [atI_nat, atI_nat]; grind
  rw [h6, dotL_swap]
  have h7 : dotq L (F.map fun row => dotq row (inL n rs)) = dotL (fun l => L.getD l 0 * (F.map fun row => dotq row (inL n rs)).getD l 0) (List.range F.length) := dotq_range hL (List.length_map ..)
  rw [h7]
  have h8 : dotL (fun l => dotL (fun k => L.getD l 0 * ((F.getD l []).getD k 0 * (inL n rs).getD k 0)) (List.range n)) (List.range F.length) = dotL (fun l => L.getD l 0 * (F.map fun row => dotq row (inL n rs)).getD l 0) (List.range F.length) := by
    refine dotL_congr (fun l hl => ?_)
    rw [dotL_mulf]
    congr 1
    have hr : (F.map fun row => dotq row (inL n rs)).getD l 0 = dotq (F.getD l []) (inL n rs) := by
      rw [List.getD_eq_getElem?_getD, List.getElem?_map, List.getD_eq_getElem?_getD, List.getElem?_eq_getElem hl]; rfl
    rw [hr, dotq_range (hF l hl) hi]
  rw [h8]
  grind
/-- The bound by the lines' limits. -/
def mostL (ls : List Ln) (L : List Rat) (k : Nat) : Rat := dotL (fun i => mx (L.getD i 0) (-(L.getD i 0)) * ((ls.getD i Ln.zero).c : Rat)) (List.range k)
theorem mx_abs (x : Rat) : x ≤ mx x (-x) ∧ -x ≤ mx x (-x) ∧ 0 ≤ mx x (-x) := by
  unfold mx
  split <;> grind
theorem mul_bound {x y c : Rat} (h : mx y (-y) ≤ c) : x * y ≤ mx x (-x) * c := by
  obtain ⟨a1, a2, a3⟩ := mx_abs x
  obtain ⟨b1, b2, b3⟩ := mx_abs y
  have h1 : mx x (-x) * mx y (-y) ≤ mx x (-x) * c := Rat.mul_le_mul_of_nonneg_left h a3
  have h2 : x * y ≤ mx x (-x) * mx y (-y) := by
    have e1 : 0 ≤ (mx x (-x) - x) * (mx y (-y) + y) := Rat.mul_nonneg (by grind) (by grind)
    have e2 : 0 ≤ (mx x (-x) + x) * (mx y (-y) - y) := Rat.mul_nonneg (by grind) (by grind)
    grind
  grind
theorem rev_bound {ls : List Ln} {L fs : List Rat} (hL : L.length = ls.length) (hf : fs.length = ls.length) (h : feasB ls fs = true) : dotq L fs ≤ mostL ls L ls.length := by
  rw [dotq_range hL hf]
  unfold mostL
  refine dotL_le (fun k hk => ?_)
  refine mul_bound ?_
  have hb := List.all_eq_true.1 h k (List.mem_range.2 hk)
  unfold bears at hb
  simp only [Bool.not_eq_true', decide_eq_false_iff_not, qs_sub_pos] at hb
  grind
theorem mostL_succ (ls : List Ln) (L : List Rat) (k : Nat) : mostL ls L (k + 1) = mostL ls L k + mx (L.getD k 0) (-(L.getD k 0)) * ((ls.getD k Ln.zero).c : Rat) := dotL_succ _ _
theorem mostL_qB {ls : List Ln} {L : List Rat} {B : Nat} (hL : ∀ k, qB (L.getD k 0) B) (hc : ∀ l ∈ ls, 0 ≤ l.c ∧ l.c ≤ 1000000) (k : Nat) : qB (mostL ls L k) (k * (B + 2 + 1) + 1) := by
  have := dotL_size (R := fun i => mx (L.getD i 0) (-(L.getD i 0)) * ((ls.getD i Ln.zero).c : Rat)) (B := B + 2) (fun i => qB_mul (qB_mx (hL i) (qB_neg (hL i))) (by
    by_cases hi : i < ls.length
    · have := hc (ls.getD i Ln.zero) (by rw [List.getD_eq_getElem?_getD, List.getElem?_eq_getElem hi]; exact List.getElem_mem hi)
      exact qB_int (by omega) (by omega)
    · rw [List.getD_eq_getElem?_getD, List.getElem?_eq_none (by omega)]
      exact qB_int (by decide) (by decide))) (List.range k)
  rw [List.length_range] at this
  exact this
end Go.Proofs.YtdkfdamihnieiaaGreat
end
