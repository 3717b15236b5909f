/- island: find; what stands does. -/
import Derived.Test.YtdkfdamihnieiaaGreatG22
set_option linter.unusedSimpArgs false
set_option linter.unusedVariables false
section
open Go Go.RowKit Go.Shelf
namespace Go.Proofs.YtdkfdamihnieiaaGreat
open Go.Proofs
def findS (ps : List Nat) : Nat → Nat → Nat
  | 0, b => b
  | f + 1, b => if ps.getD b 0 = b then b else findS ps f (ps.getD b 0)
/-- The end of the way down. -/
def root (ps : List Nat) (b : Nat) : Nat := findS ps (b + 1) b
/-- No place points upwards. -/
def dnL (ps : List Nat) : Prop := ∀ i, i < ps.length → ps.getD i 0 ≤ i
theorem dnL.le {ps : List Nat} (h : dnL ps) (i : Nat) : ps.getD i 0 ≤ i := by
  by_cases hi : i < ps.length
  · exact h i hi
  · rw [List.getD_eq_getElem?_getD, List.getElem?_eq_none (by omega)]; exact Nat.zero_le _
theorem findS_fuel {ps : List Nat} (h : dnL ps) : ∀ (b f : Nat), b < f → findS ps f b = findS ps (b + 1) b := by
  intro b
  induction b using Nat.strongRecOn with
  | _ b ih =>
    intro f hf
    obtain ⟨f, rfl⟩ : ∃ g, f = g + 1 := ⟨f - 1, by omega⟩
    unfold findS
    by_cases e : ps.getD b 0 = b
    · rw [if_pos e, if_pos e]
    · rw [if_neg e, if_neg e]
      have hlt : ps.getD b 0 < b := by have := h.le b; omega
      rw [ih _ hlt f (by omega), ih _ hlt b hlt]
theorem root_fix {ps : List Nat} {b : Nat} (e : ps.getD b 0 = b) : root ps b = b := by unfold root findS; rw [if_pos e]
theorem root_step {ps : List Nat} (h : dnL ps) {b : Nat} (e : ps.getD b 0 ≠ b) : root ps b = root ps (ps.getD b 0) := by
  have hlt : ps.getD b 0 < b := by have := h.le b; omega
  unfold root
  conv => lhs; unfold findS
  rw [if_neg e, findS_fuel h _ b hlt]
theorem root_le {ps : List Nat} (h : dnL ps) (b : Nat) : root ps b ≤ b := by
  induction b using Nat.strongRecOn with
  | _ b ih =>
    by_cases e : ps.getD b 0 = b
    · rw [root_fix e]; exact Nat.le_refl _
    · rw [root_step h e]
      have hlt : ps.getD b 0 < b := by have := h.le b; omega
      exact Nat.le_trans (ih _ hlt) (Nat.le_of_lt hlt)
theorem root_root {ps : List Nat} (h : dnL ps) (b : Nat) : ps.getD (root ps b) 0 = root ps b := by
  induction b using Nat.strongRecOn with
  | _ b ih =>
    by_cases e : ps.getD b 0 = b
    · rw [root_fix e]; exact e
    · rw [root_step h e]
      exact ih _ (by have := h.le b; omega)
theorem intsL_get (ks : List Nat) (j : Nat) : (intsL ks).getD j 0 = ((ks.getD j 0 : Nat) : Int) := by
  unfold intsL
  rw [List.getD_eq_getElem?_getD, List.getD_eq_getElem?_getD, List.getElem?_map]
  cases ks[j]? <;> rfl
theorem intsL_length (ks : List Nat) : (intsL ks).length = ks.length := by simp [intsL]
set_option maxHeartbeats 1000000 in
theorem find_c {w : World} {g : Nat} {v : Value} {ps : List Nat} (h : Vi w v (intsL ps)) (c0 : w.cell? ⟨g, 0, none⟩ = some v) (hd : dnL ps) (b : Nat) (hb : b < ps.length) : Calls Tryz.prog 175 #[.int .i64 (b : Int), .pointer (some ⟨g, 0, none⟩)] w fun e w' => e = .returned (.int .i64 (root ps b : Nat)) ∧ w' = w := by
  obtain ⟨A, l, c, rfl⟩ := h.shape
  obtain rfl := h.len
  have hm := h.lim
  obtain ⟨r, hr⟩ : ∃ r, r = root ps b := ⟨_, rfl⟩
  have HR := Lib.hid hr
  rw [← hr]
  rw [intsL_length] at c0 hm
  obtain ⟨b1, o, hA, hc⟩ := h.at (by rw [intsL_length]; omega)
  rw [intsL_length] at hc
  subst hA
  have HC := Lib.hid hc
  clear hr h hc
  go_enter Tryz.func175, Tryz.ntmps175
  go_wp2
  go_loopw [0] (fun iv wr => ∃ k : Nat, k < ps.length ∧ iv = .int .i64 (k : Int) ∧ wr = w ∧ Hid (root ps k = r)) (fun iv _ => (intOf iv).toNat)
  case atStart => exact ⟨b, hb, rfl, rfl, Lib.hid HR.out.symm⟩
  case round =>
    obtain ⟨k, hk, rfl, rfl, HK⟩ := hrel
    have c1 := HC.out k hk
    rw [intsL_get] at c1
    have hle := hd.le k
    obtain ⟨q, hq⟩ : ∃ q, q = ps.getD k 0 := ⟨_, rfl⟩
    rw [← hq] at c1 hle
    by_cases e : q = k
    · subst e
      have e2 : root ps q = q := root_fix hq.symm
      have HE := Lib.hid (e2.symm.trans HK.out)
      clear hq e2
      go_wp2
      go_ret
      exact ⟨by rw [HE.out]; rfl, rfl⟩
    · have e2 : root ps k = root ps q := by rw [root_step hd (by rw [← hq]; exact e), ← hq]
      have HE := Lib.hid (e2.symm.trans HK.out)
      have e3 : ((q : Int) != (k : Int)) = true := by simp; omega
      have e4 : ¬ ((q : Int) = (k : Int)) := by omega
      have hq2 : q < ps.length := by omega
      clear hq e2
      go_wp2
      exact ⟨⟨q, hq2, rfl, trivial, HE⟩, by simp [intOf]; omega⟩
/-- What a line does. -/
def joinS (ps : List Nat) (l : Ln) : List Nat :=
  if root ps l.f.toNat = root ps l.t.toNat then ps else ps.set (max (root ps l.f.toNat) (root ps l.t.toNat)) (min (root ps l.f.toNat) (root ps l.t.toNat))
def flatS (ps : List Nat) (b : Nat) : List Nat := ps.set b (root ps b)
def standsS (n : Nat) (ls : List Ln) : List Nat := (List.range n).foldl flatS (ls.foldl joinS (List.range n))
theorem getD_setN (l : List Nat) (k j q : Nat) : (l.set k q).getD j 0 = if k = j ∧ k < l.length then q else l.getD j 0 := by
  simp only [List.getD_eq_getElem?_getD, List.getElem?_set]
  by_cases h : k = j
  · subst h
    by_cases h2 : k < l.length
    · simp [h2]
    · simp [h2]
  · simp [h]
theorem dnL.set {ps : List Nat} (h : dnL ps) {k q : Nat} (hq : q ≤ k) : dnL (ps.set k q) := by
  intro i hi
  rw [getD_setN]
  split
  · rename_i e; omega
  · exact h.le i
theorem joinS_length (ps : List Nat) (l : Ln) : (joinS ps l).length = ps.length := by unfold joinS; split <;> simp
theorem joinS_dn {ps : List Nat} (h : dnL ps) (l : Ln) : dnL (joinS ps l) := by
  unfold joinS
  split
  · exact h
  · exact h.set (by omega)
theorem flatS_length (ps : List Nat) (b : Nat) : (flatS ps b).length = ps.length := by unfold flatS; simp
theorem flatS_dn {ps : List Nat} (h : dnL ps) (b : Nat) : dnL (flatS ps b) := h.set (root_le h b)
theorem range_dn (n : Nat) : dnL (List.range n) := by
  intro i hi
  rw [List.getD_eq_getElem?_getD, List.getElem?_eq_getElem hi]; simp
theorem joins_both (n : Nat) (ls : List Ln) : (ls.foldl joinS (List.range n)).length = n ∧ dnL (ls.foldl joinS (List.range n)) := by
  suffices ∀ (ps : List Nat), ps.length = n → dnL ps → (ls.foldl joinS ps).length = n ∧ dnL (ls.foldl joinS ps) from this _ (by simp) (range_dn n)
  induction ls with
  | nil => intro ps h1 h2; exact ⟨h1, h2⟩
  | cons l r ih => intro ps h1 h2; exact ih _ (by rw [joinS_length]; exact h1) (joinS_dn h2 l)
theorem flats_both (k : Nat) (ps : List Nat) (h : dnL ps) : ((List.range k).foldl flatS ps).length = ps.length ∧ dnL ((List.range k).foldl flatS ps) := by
  induction k with
  | zero => exact ⟨rfl, h⟩
  | succ k ih => rw [List.range_succ, List.foldl_append]; exact ⟨by simp only [List.foldl_cons, List.foldl_nil]; rw [flatS_length]; exact ih.1, flatS_dn ih.2 k⟩
theorem standsS_length (n : Nat) (ls : List Ln) : (standsS n ls).length = n := by
  unfold standsS; rw [(flats_both _ _ (joins_both n ls).2).1, (joins_both n ls).1]
theorem standsS_dn (n : Nat) (ls : List Ln) : dnL (standsS n ls) := (flats_both _ _ (joins_both n ls).2).2
end Go.Proofs.YtdkfdamihnieiaaGreat
end
