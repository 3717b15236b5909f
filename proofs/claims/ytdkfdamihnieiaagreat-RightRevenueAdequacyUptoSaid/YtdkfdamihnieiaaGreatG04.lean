/- Contracts of package whole, part 8: Add, Sub, Mul, Cmp, Neg. -/
import Derived.Test.YtdkfdamihnieiaaGreatG03
import Derived.Laws.OwnMore
set_option linter.unusedSimpArgs false
set_option linter.unusedVariables false
section
open Go Go.RowKit
namespace Go.Proofs.YtdkfdamihnieiaaGreat
open Go.Proofs
theorem wv_len {ws : List Nat} (h : okw ws) {B : Nat} (hB : ws.length ≤ B) : wv ws < pw B := Nat.lt_of_lt_of_le (wv_lt h) (pw_mono hB)
theorem dgl {ws : List Nat} (h : okw ws) {B : Nat} (hB : ws.length ≤ B) : (dg (wv ws)).length ≤ B := dg_length (wv_len h hB)
theorem pw_add_lt {x y A B : Nat} (hx : x < pw A) (hy : y < pw B) : x + y < pw (max A B + 1) := by
  have h1 := pw_mono (Nat.le_max_left A B)
  have h2 := pw_mono (Nat.le_max_right A B)
  rw [pw_succ]; omega
theorem pw_mul_lt {x y A B : Nat} (hx : x < pw A) (hy : y < pw B) : x * y < pw (A + B) := by
  rw [pw_add]; exact Nat.mul_lt_mul_of_lt_of_lt hx hy
theorem sg_add_same (n : Bool) (x y : Nat) : sg n (x + y) = sg n x + sg n y := by cases n <;> simp [sg] <;> omega
theorem sg_sub1 {n m : Bool} {x y : Nat} (h : n ≠ m) (hle : y ≤ x) : sg n (x - y) = sg n x + sg m y := by
  cases n <;> cases m <;> simp [sg] at * <;> omega
theorem sg_sub2 {n m : Bool} {x y : Nat} (h : n ≠ m) (hle : x ≤ y) : sg m (y - x) = sg n x + sg m y := by
  cases n <;> cases m <;> simp [sg] at * <;> omega
theorem sg_mul (n m : Bool) (x y : Nat) : sg (n != m) (x * y) = sg n x * sg m y := by
  cases n <;> cases m <;> simp [sg, Int.neg_mul, Int.mul_neg]
theorem sg_not (n : Bool) (x : Nat) : sg (!n) x = - sg n x := by cases n <;> simp [sg]
set_option maxRecDepth 100000 in
set_option maxHeartbeats 2000000 in
theorem Add_c {ok1 ok2 w va vb a b A B} (h1 : isZ ok1 w va a A) (h2 : isZ ok2 w vb b B) (hA : A ≤ 1000000000) (hB : B ≤ 1000000000) :
    Calls Tryz.prog 164 #[va, vb] w (RetZ w (fresh w) (a + b) (max A B + 1)) := by
  obtain ⟨n1, A1, l1, c1, rfl⟩ := h1.shape
  obtain ⟨n2, A2, l2, c2, rfl⟩ := h2.shape
  obtain ⟨ws1, hw1, hl1, hz1⟩ := h1.parts
  obtain ⟨ws2, hw2, hl2, hz2⟩ := h2.parts
  have hd1 := dgl hw1.okw hl1
  have hd2 := dgl hw2.okw hl2
  have hx := wv_len hw1.okw hl1
  have hy := wv_len hw2.okw hl2
  generalize hex : wv ws1 = x at *
  generalize hey : wv ws2 = y at *
  have Hx := Lib.hid hex
  have Hy := Lib.hid hey
  have HZ1 := Lib.hid hz1
  have HZ2 := Lib.hid hz2
  obtain ⟨z0, z1, z2, z3, z4⟩ := z3 w.heap.size
  have hsum := pw_add_lt hx hy
  clear hex hey hz1 hz2 h1 h2
  by_cases hn : n1 = n2
  · subst hn
    have hbeq : (n1 == n1) = true := by simp
    have hsg : sg n1 (x + y) = a + b := by rw [HZ1.out, HZ2.out, sg_add_same]
    go_enter Tryz.func164, Tryz.ntmps164
    go_wp2
    go_region_held3 (fun w' => ∀ b o, b < w.heap.size + 1 + 1 → w'.cell? ⟨b, o, none⟩ = (((w.alloc (Obj.cells #[Value.bool n1, .slice A1 l1 c1] 42)).alloc (Obj.cells #[Value.bool n1, .slice A2 l2 c2] 42)).alloc (Obj.cells #[Value.bool false, Value.slice none 0 0] 42)).cell? ⟨b, o, none⟩)
      (first
        | (exact fun _ _ _ => rfl)
        | assumption
        | (exact keep_of (by assumption) (by omega))
        | (exact keep_dr (by assumption) (by omega))
        | (exact keep_set1 (by assumption) (by omega) (by omega))
        | (exact keep_set2 (by assumption) (by omega) (by omega))
        | (exact keep_set4 (by assumption) (by omega) (by omega)))
      (first
        | (go_at_call 173; (with_reducible refine Calls.mono (trim_c (hw1.below (bdr (bal (bal (bal (b0 _))))))) ?_); rintro e w1 ⟨A3, l3, c3, rfl, hv1, rfl⟩)
        | (go_at_call 173; (with_reducible refine Calls.mono (trim_c (hw2.below (bdr (bal (bal (bal (b0 _))))))) ?_); rintro e w1 ⟨A4, l4, c4, rfl, hv2, rfl⟩))
    rw [Hx.out] at hv1
    rw [Hy.out] at hv2
    go_wp2
    go_region_held3 (fun w' => ∀ b o, b < w.heap.size + 1 + 1 → w'.cell? ⟨b, o, none⟩ = (((w.alloc (Obj.cells #[Value.bool n1, .slice A1 l1 c1] 42)).alloc (Obj.cells #[Value.bool n1, .slice A2 l2 c2] 42)).alloc (Obj.cells #[Value.bool false, Value.slice none 0 0] 42)).cell? ⟨b, o, none⟩)
      (first
        | (exact fun _ _ _ => rfl)
        | assumption
        | (exact keep_of (by assumption) (by omega))
        | (exact keep_dr (by assumption) (by omega))
        | (exact keep_set1 (by assumption) (by omega) (by omega))
        | (exact keep_set2 (by assumption) (by omega) (by omega))
        | (exact keep_set4 (by assumption) (by omega) (by omega)))
      (first
        | (go_at_call 227; (with_reducible refine Calls.mono (add_mag hv1.dr hv2.dr (by omega) (by omega)) ?_); rintro e w1 ⟨A6, l6, c6, rfl, hb1, r, hr, hrv, _⟩; have B1 := Bx.step ((Bx.refl (n := w.heap.size + 3) (((w.alloc (Obj.cells #[Value.bool n1, .slice A1 l1 c1] 42)).alloc (Obj.cells #[Value.bool n1, .slice A2 l2 c2] 42)).alloc (Obj.cells #[Value.bool false, Value.slice none 0 0] 42)) (by simp)).dr.dr) hb1; have k1 := B1.cell; have hrv' : wv r = x + y := (by rw [hrv, wv_dg, wv_dg]); have Hrv := Lib.hid hrv'; clear hrv hrv')
        | (go_at_call 171; (with_reducible refine Calls.mono (made_c (z := a + b) (B := max A B + 1) n1 hr (by rw [Hrv.out]; exact hsg) (by rw [Hrv.out]; exact hsum)) ?_); rintro e w1 ⟨n5, A5, l5, c5, rfl, hb2, hr5⟩; have B2 := Bx.step B1 hb2; have k2 := B2.cell; have f2 := B2.frozen))
    go_wp2
    refine bodyPost_ret (v := .agg #[.bool n5, .slice A5 l5 c5]) ?_ rfl ?_
    · simp [results, Tryz.results164, go_sem, k2]
    · exact RetZ.boxF (bthen (bthen (bdr (bdr (bal (bal (bal (b0 _)))))) hb1) hb2) hr5 (by omega) (by simp)
  · have hbeq : (n1 == n2) = false := by simpa using hn
    have Hn := Lib.hid hn
    clear hn
    by_cases hle : y ≤ x
    · have hsg : sg n1 (x - y) = a + b := by rw [HZ1.out, HZ2.out, sg_sub1 Hn.out hle]
      go_enter Tryz.func164, Tryz.ntmps164
      go_wp2
      go_region_held3 (fun w' => ∀ b o, b < w.heap.size + 1 + 1 → w'.cell? ⟨b, o, none⟩ = (((w.alloc (Obj.cells #[Value.bool n1, .slice A1 l1 c1] 42)).alloc (Obj.cells #[Value.bool n2, .slice A2 l2 c2] 42)).alloc (Obj.cells #[Value.bool false, Value.slice none 0 0] 42)).cell? ⟨b, o, none⟩)
      (first
        | (exact fun _ _ _ => rfl)
        | assumption
        | (exact keep_of (by assumption) (by omega))
        | (exact keep_dr (by assumption) (by omega))
        | (exact keep_set1 (by assumption) (by omega) (by omega))
        | (exact keep_set2 (by assumption) (by omega) (by omega))
        | (exact keep_set4 (by assumption) (by omega) (by omega)))
      (first
        | (go_at_call 173; (with_reducible refine Calls.mono (trim_c (hw1.below (bdr (bal (bal (bal (b0 _))))))) ?_); rintro e w1 ⟨A3, l3, c3, rfl, hv1, rfl⟩)
        | (go_at_call 173; (with_reducible refine Calls.mono (trim_c (hw2.below (bdr (bal (bal (bal (b0 _))))))) ?_); rintro e w1 ⟨A4, l4, c4, rfl, hv2, rfl⟩))
      rw [Hx.out] at hv1
      rw [Hy.out] at hv2
      go_wp2_with (go_at_call 228; (with_reducible refine Calls.mono (cmp_mag hv1 hv2 (by omega) (by omega)) ?_); rintro e w1 ⟨c, rfl, hc, hb1⟩; have hc0 : 0 ≤ c := hc.ge.2 hle; have B1 := Bx.step ((Bx.refl (n := w.heap.size + 3) (((w.alloc (Obj.cells #[Value.bool n1, .slice A1 l1 c1] 42)).alloc (Obj.cells #[Value.bool n2, .slice A2 l2 c2] 42)).alloc (Obj.cells #[Value.bool false, Value.slice none 0 0] 42)) (by simp)).dr) hb1; have k1 := B1.cell)
      go_region_held3 (fun w' => ∀ b o, b < w.heap.size + 1 + 1 → w'.cell? ⟨b, o, none⟩ = (((w.alloc (Obj.cells #[Value.bool n1, .slice A1 l1 c1] 42)).alloc (Obj.cells #[Value.bool n2, .slice A2 l2 c2] 42)).alloc (Obj.cells #[Value.bool false, Value.slice none 0 0] 42)).cell? ⟨b, o, none⟩)
      (first
        | (exact fun _ _ _ => rfl)
        | assumption
        | (exact keep_of (by assumption) (by omega))
        | (exact keep_dr (by assumption) (by omega))
        | (exact keep_set1 (by assumption) (by omega) (by omega))
        | (exact keep_set2 (by assumption) (by omega) (by omega))
        | (exact keep_set4 (by assumption) (by omega) (by omega)))
      (first
        | (go_at_call 229; (with_reducible refine Calls.mono (sub_mag ((hv1.below hb1).dr) ((hv2.below hb1).dr) (by omega) (by omega) (by rw [wv_dg, wv_dg]; exact hle)) ?_); rintro e w1 ⟨A6, l6, c6, rfl, hb2, r, hr, hrv, _⟩; have B2 := Bx.step B1.dr hb2; have k2 := B2.cell; have hrv' : wv r = x - y := (by rw [hrv, wv_dg, wv_dg]); have Hrv := Lib.hid hrv'; clear hrv hrv')
        | (go_at_call 171; (with_reducible refine Calls.mono (made_c (z := a + b) (B := max A B + 1) n1 hr (by rw [Hrv.out]; exact hsg) (by rw [Hrv.out]; omega)) ?_); rintro e w1 ⟨n5, A5, l5, c5, rfl, hb3, hr5⟩; have B3 := Bx.step B2 hb3; have k3 := B3.cell; have f3 := B3.frozen))
      go_wp2
      refine bodyPost_ret (v := .agg #[.bool n5, .slice A5 l5 c5]) ?_ rfl ?_
      · simp [results, Tryz.results164, go_sem, k3]
      · exact RetZ.boxF (bthen (bthen (bdr (bthen (bdr (bal (bal (bal (b0 _))))) hb1)) hb2) hb3) hr5 (by omega) (by have := B1.s; simp; omega)
    · · have hle : x ≤ y := by omega
        have hsg : sg n2 (y - x) = a + b := by rw [HZ1.out, HZ2.out, sg_sub2 Hn.out hle]
        go_enter Tryz.func164, Tryz.ntmps164
        go_wp2
        go_region_held3 (fun w' => ∀ b o, b < w.heap.size + 1 + 1 → w'.cell? ⟨b, o, none⟩ = (((w.alloc (Obj.cells #[Value.bool n1, .slice A1 l1 c1] 42)).alloc (Obj.cells #[Value.bool n2, .slice A2 l2 c2] 42)).alloc (Obj.cells #[Value.bool false, Value.slice none 0 0] 42)).cell? ⟨b, o, none⟩)
      (first
        | (exact fun _ _ _ => rfl)
        | assumption
        | (exact keep_of (by assumption) (by omega))
        | (exact keep_dr (by assumption) (by omega))
        | (exact keep_set1 (by assumption) (by omega) (by omega))
        | (exact keep_set2 (by assumption) (by omega) (by omega))
        | (exact keep_set4 (by assumption) (by omega) (by omega)))
      (first
        | (go_at_call 173; (with_reducible refine Calls.mono (trim_c (hw1.below (bdr (bal (bal (bal (b0 _))))))) ?_); rintro e w1 ⟨A3, l3, c3, rfl, hv1, rfl⟩)
        | (go_at_call 173; (with_reducible refine Calls.mono (trim_c (hw2.below (bdr (bal (bal (bal (b0 _))))))) ?_); rintro e w1 ⟨A4, l4, c4, rfl, hv2, rfl⟩))
        rw [Hx.out] at hv1
        rw [Hy.out] at hv2
        go_wp2_with (go_at_call 228; (with_reducible refine Calls.mono (cmp_mag hv1 hv2 (by omega) (by omega)) ?_); rintro e w1 ⟨c, rfl, hc, hb1⟩; have hc0 : c < 0 := (by have := hc.ge; omega); have B1 := Bx.step ((Bx.refl (n := w.heap.size + 3) (((w.alloc (Obj.cells #[Value.bool n1, .slice A1 l1 c1] 42)).alloc (Obj.cells #[Value.bool n2, .slice A2 l2 c2] 42)).alloc (Obj.cells #[Value.bool false, Value.slice none 0 0] 42)) (by simp)).dr) hb1; have k1 := B1.cell)
        go_region_held3 (fun w' => ∀ b o, b < w.heap.size + 1 + 1 → w'.cell? ⟨b, o, none⟩ = (((w.alloc (Obj.cells #[Value.bool n1, .slice A1 l1 c1] 42)).alloc (Obj.cells #[Value.bool n2, .slice A2 l2 c2] 42)).alloc (Obj.cells #[Value.bool false, Value.slice none 0 0] 42)).cell? ⟨b, o, none⟩)
      (first
        | (exact fun _ _ _ => rfl)
        | assumption
        | (exact keep_of (by assumption) (by omega))
        | (exact keep_dr (by assumption) (by omega))
        | (exact keep_set1 (by assumption) (by omega) (by omega))
        | (exact keep_set2 (by assumption) (by omega) (by omega))
        | (exact keep_set4 (by assumption) (by omega) (by omega)))
      (first
        | (go_at_call 229; (with_reducible refine Calls.mono (sub_mag ((hv2.below hb1).dr) ((hv1.below hb1).dr) (by omega) (by omega) (by rw [wv_dg, wv_dg]; exact hle)) ?_); rintro e w1 ⟨A6, l6, c6, rfl, hb2, r, hr, hrv, _⟩; have B2 := Bx.step B1.dr hb2; have k2 := B2.cell; have hrv' : wv r = y - x := (by rw [hrv, wv_dg, wv_dg]); have Hrv := Lib.hid hrv'; clear hrv hrv')
        | (go_at_call 171; (with_reducible refine Calls.mono (made_c (z := a + b) (B := max A B + 1) n2 hr (by rw [Hrv.out]; exact hsg) (by rw [Hrv.out]; omega)) ?_); rintro e w1 ⟨n5, A5, l5, c5, rfl, hb3, hr5⟩; have B3 := Bx.step B2 hb3; have k3 := B3.cell; have f3 := B3.frozen))
        go_wp2
        refine bodyPost_ret (v := .agg #[.bool n5, .slice A5 l5 c5]) ?_ rfl ?_
        · simp [results, Tryz.results164, go_sem, k3]
        · exact RetZ.boxF (bthen (bthen (bdr (bthen (bdr (bal (bal (bal (b0 _))))) hb1)) hb2) hb3) hr5 (by omega) (by have := B1.s; simp; omega)
theorem isZ.neg {ok w n s z B} (h : isZ ok w (.agg #[.bool n, s]) z B) : isZ ok w (.agg #[.bool (!n), s]) (-z) B := by
  obtain ⟨ws, hw, hl, hz⟩ := h.parts
  exact ⟨!n, s, ws, rfl, hw, hl, by rw [hz, sg_not]⟩
set_option maxHeartbeats 1000000 in
theorem Sub_c {ok1 ok2 w va vb a b A B} (h1 : isZ ok1 w va a A) (h2 : isZ ok2 w vb b B) (hA : A ≤ 1000000000) (hB : B ≤ 1000000000) :
    Calls Tryz.prog 166 #[va, vb] w (RetZ w (fresh w) (a - b) (max A B + 1)) := by
  obtain ⟨n1, A1, l1, c1, rfl⟩ := h1.shape
  obtain ⟨n2, A2, l2, c2, rfl⟩ := h2.shape
  obtain ⟨z0, z1, z2, z3, z4⟩ := z3 w.heap.size
  rw [Int.sub_eq_add_neg]
  go_enter Tryz.func166, Tryz.ntmps166
  go_wp2_with (go_at_call 164; (with_reducible refine Calls.mono (Add_c (h1.below (bal (bal (bal (b0 _))))) (h2.neg.below (bal (bal (bal (b0 _))))) hA hB) ?_); rintro e w1 ⟨n5, A5, l5, c5, rfl, hb1, hr5⟩; have B1 := Bx.step (Bx.refl (n := w.heap.size + 3) (((w.alloc (Obj.cells #[Value.bool n1, .slice A1 l1 c1] 42)).alloc (Obj.cells #[Value.bool n2, .slice A2 l2 c2] 42)).alloc (Obj.cells #[Value.bool false, Value.slice none 0 0] 42)) (by simp)) hb1; have k1 := B1.cell; have f1 := B1.frozen)
  refine bodyPost_ret (v := .agg #[.bool n5, .slice A5 l5 c5]) ?_ rfl ?_
  · simp [results, Tryz.results166, go_sem, k1]
  · exact RetZ.boxF (bthen (bal (bal (bal (b0 _)))) hb1) hr5 (by omega) (by simp)
set_option maxHeartbeats 1000000 in
theorem Cmp_c {ok1 ok2 w va vb a b A B} (h1 : isZ ok1 w va a A) (h2 : isZ ok2 w vb b B) (hA : A ≤ 1000000000) (hB : B ≤ 1000000000) :
    Calls Tryz.prog 92 #[va, vb] w fun e w' => e = .returned (.int .i64 (a - b).sign) ∧ Below w.heap.size w w' := by
  obtain ⟨n1, A1, l1, c1, rfl⟩ := h1.shape
  obtain ⟨n2, A2, l2, c2, rfl⟩ := h2.shape
  obtain ⟨z0, z1, _⟩ := z2 w.heap.size
  go_enter Tryz.func92, Tryz.ntmps92
  go_wp2_with (first
    | (go_at_call 166; (with_reducible refine Calls.mono (Sub_c (h1.below (bal (bal (b0 _)))) (h2.below (bal (bal (b0 _)))) hA hB) ?_); rintro e w1 ⟨n5, A5, l5, c5, rfl, hb1, hr5⟩)
    | (go_at_call 121; (with_reducible refine Calls.mono (sign_c hr5.z) ?_); rintro e w1 ⟨rfl, hb2⟩))
  go_ret
  exact ⟨rfl, bthen (bthen (bal (bal (b0 _))) hb1) hb2⟩
set_option maxRecDepth 100000 in
set_option maxHeartbeats 2000000 in
theorem Mul_c {ok1 ok2 w va vb a b A B} (h1 : isZ ok1 w va a A) (h2 : isZ ok2 w vb b B) (hA : A ≤ 1000000000) (hB : B ≤ 1000000000) :
    Calls Tryz.prog 93 #[va, vb] w (RetZ w (fresh w) (a * b) (A + B)) := by
  obtain ⟨n1, A1, l1, c1, rfl⟩ := h1.shape
  obtain ⟨n2, A2, l2, c2, rfl⟩ := h2.shape
  obtain ⟨ws1, hw1, hl1, hz1⟩ := h1.parts
  obtain ⟨ws2, hw2, hl2, hz2⟩ := h2.parts
  have hd1 := dgl hw1.okw hl1
  have hd2 := dgl hw2.okw hl2
  have hx := wv_len hw1.okw hl1
  have hy := wv_len hw2.okw hl2
  generalize hex : wv ws1 = x at *
  generalize hey : wv ws2 = y at *
  have Hx := Lib.hid hex
  have Hy := Lib.hid hey
  have HZ1 := Lib.hid hz1
  have HZ2 := Lib.hid hz2
  obtain ⟨z0, z1, z2, z3, z4⟩ := z3 w.heap.size
  have hmul := pw_mul_lt hx hy
  clear hex hey hz1 hz2 h1 h2
  have hsg : sg (!(n1 == n2)) (x * y) = a * b := by rw [HZ1.out, HZ2.out]; exact sg_mul n1 n2 x y
  have Hsg := Lib.hid hsg
  clear hsg
  go_enter Tryz.func93, Tryz.ntmps93
  go_wp2
  go_region_held3 (fun w' => ∀ b o, b < w.heap.size + 1 + 1 → w'.cell? ⟨b, o, none⟩ = (((w.alloc (Obj.cells #[Value.bool n1, .slice A1 l1 c1] 42)).alloc (Obj.cells #[Value.bool n2, .slice A2 l2 c2] 42)).alloc (Obj.cells #[Value.bool false, Value.slice none 0 0] 42)).cell? ⟨b, o, none⟩)
      (first
        | (exact fun _ _ _ => rfl)
        | assumption
        | (exact keep_of (by assumption) (by omega))
        | (exact keep_dr (by assumption) (by omega))
        | (exact keep_set1 (by assumption) (by omega) (by omega))
        | (exact keep_set2 (by assumption) (by omega) (by omega))
        | (exact keep_set4 (by assumption) (by omega) (by omega)))
      (first
        | (go_at_call 173; (with_reducible refine Calls.mono (trim_c (hw1.below (bdr (bal (bal (bal (b0 _))))))) ?_); rintro e w1 ⟨A3, l3, c3, rfl, hv1, rfl⟩; rw [Hx.out] at hv1)
        | (go_at_call 173; (with_reducible refine Calls.mono (trim_c (hw2.below (bdr (bal (bal (bal (b0 _))))))) ?_); rintro e w1 ⟨A4, l4, c4, rfl, hv2, rfl⟩; rw [Hy.out] at hv2)
        | (go_at_call 172; (with_reducible refine Calls.mono (mul_c hv1 hv2 (by omega) (by omega)) ?_); rintro e w1 ⟨A6, l6, c6, rfl, hb1, r, hr, hrv, _⟩; have B1 := Bx.step ((Bx.refl (n := w.heap.size + 3) (((w.alloc (Obj.cells #[Value.bool n1, .slice A1 l1 c1] 42)).alloc (Obj.cells #[Value.bool n2, .slice A2 l2 c2] 42)).alloc (Obj.cells #[Value.bool false, Value.slice none 0 0] 42)) (by simp)).dr) hb1; have k1 := B1.cell; have hrv' : wv r = x * y := (by rw [hrv, wv_dg, wv_dg]); have Hrv := Lib.hid hrv'; clear hrv hrv')
        | (go_at_call 171; (with_reducible refine Calls.mono (made_c (z := a * b) (B := A + B) _ hr (by rw [Hrv.out]; exact Hsg.out) (by rw [Hrv.out]; exact hmul)) ?_); rintro e w1 ⟨n5, A5, l5, c5, rfl, hb2, hr5⟩; have B2 := Bx.step B1 hb2; have k2 := B2.cell; have f2 := B2.frozen))
  go_wp2
  refine bodyPost_ret (v := .agg #[.bool n5, .slice A5 l5 c5]) ?_ rfl ?_
  · simp [results, Tryz.results93, go_sem, k2]
  · exact RetZ.boxF (bthen (bthen (bdr (bal (bal (bal (b0 _))))) hb1) hb2) hr5 (by omega) (by simp)
end Go.Proofs.YtdkfdamihnieiaaGreat
end
section
/- Contracts of package whole, part 9: Clone, Neg, IsCanonical. -/
open Go Go.RowKit
namespace Go.Proofs.YtdkfdamihnieiaaGreat
open Go.Proofs
theorem u32s_one {ws : List Nat} : ∀ u ∈ u32s ws, u.oneCell' = true := by
  intro u hu
  unfold u32s at hu
  obtain ⟨x, _, rfl⟩ := List.mem_map.1 hu
  simp [Value.oneCell']
theorem addr_add0 (b o : Nat) (j : Nat) : ((⟨b, o, none⟩ : Addr).add j) = ⟨b, o + j, none⟩ := by unfold Addr.add; split <;> simp_all
/-- The cells of a slice that is read, for an append. -/
theorem Rd.news {ok w A c ws} (h : Rd ok w (some A) c ws) : ∀ j u, (u32s ws)[j]? = some u → w.cell? (A.add j) = some u := by
  intro j u hu
  have hj : j < ws.length := by
    have := (List.getElem?_eq_some_iff.1 hu).1; simpa [u32s] using this
  obtain ⟨b, o, hA, _, hc⟩ := h.cells (by omega)
  injection hA with hA
  subst hA
  rw [addr_add0, hc j hj]
  rw [u32s_get hj] at hu; exact hu
theorem lit_own (w : World) (n0 : Nat) (h : n0 ≤ w.heap.size) : (w.alloc (.cells #[] 94)).ownsRow n0 94 1 (.slice (some ⟨w.heap.size, 0, none⟩) 0 0) 0 [] :=
  World.ownsRow_lit w #[] 0 h (by unfold maxLen; omega) rfl
theorem own_slice {w : World} {n0 n : Nat} {v : Value} {xs : List Value} {e : TypeId} {s : Nat} (h : w.ownsRow n0 e s v n xs) : ∃ A c, v = .slice A n c := by
  rcases h.2 with ⟨rfl, rfl⟩ | ⟨g, cap, cur, rfl, _⟩
  · exact ⟨none, 0, rfl⟩
  · exact ⟨_, _, rfl⟩
/-- append to a row of the call's own, of whatever is read. -/
theorem wpList_append_x {P : Program} {w : World} {ops : Array Oper} {rest : List Oper} {o : Oper} {a : Act} {Q : Exit → Act → World → Prop} (hgd : o.guard = none) (s x : Operand) (t : TypeId)
    (ho : o.op = .call { callee := .builtin .append, args := #[s, x], argTypes := #[t, t] })
    (base : Nat) (e : TypeId) (i : TypeInfo) (z : Value) (size bytes : Nat) (ht : P.underlying t = some (.slice e)) (hi : P.info? e = some i) (hz : i.zero = some z)
    (hsize : i.size = size) (hby : i.bytes = bytes) (hzs : z.cells.size = size) (hsz : 0 < size)
    (v : Value) (n : Nat) (xs : List Value) (hs : a.eval s = v) (hown : w.ownsRow base e size v n xs)
    (A : Option Addr) (m c : Nat) (news : List Value) (hx : a.eval x = .slice A m c) (hnone : A = none → m = 0) (hl : news.length = m * size) (hnews : ∀ ad, A = some ad → ∀ j u, news[j]? = some u → w.cell? (ad.add j) = some u) (h1 : ∀ u ∈ news, u.oneCell' = true)
    (h63 : n + m ≤ maxLen) (hbytes : (n + m) * bytes ≤ 140737488355328) (hbase : base ≤ w.heap.size)
    (h : ∀ A' c' w', w'.ownsRow base e size (.slice A' (n + m) c') (n + m) (xs ++ news) → w.grownBy w' v.ownBlock → wpList P ops Q rest (a.put o.dst (.slice A' (n + m) c')) w') : wpList P ops Q (o :: rest) a w := by
  cases A with
  | some ad =>
    refine wpList_append_own w hgd s x t ho base e i z size bytes ht hi hz hsize hby hzs hsz v n xs hs hown ad m c news hx hl (hnews ad rfl) h1 h63 hbytes hbase fun v' w' h2 h3 _ => ?_
    obtain ⟨A', c', rfl⟩ := own_slice h2
    exact h A' c' w' h2 h3
  | none =>
    obtain rfl := hnone rfl
    have hn : news = [] := List.eq_nil_of_length_eq_zero (by simpa using hl)
    subst hn
    refine wpList_plain hgd fun K hK' => ?_
    have hrun : (Builtin.append_ #[t, t] o.type #[v, .slice none 0 c]).run P w = .ok v w := by
      rcases hown.2 with ⟨rfl, rfl⟩ | ⟨g, cap, cur, rfl, _, _, hnc, _⟩
      · simp [Builtin.append_, run_underlying ht, sizeOf, typeInfo, hi, Builtin.lenOf, Builtin.firstCells]
      · simp [Builtin.append_, run_underlying ht, sizeOf, typeInfo, hi, Builtin.lenOf, Builtin.firstCells, hnc, storeCells]
    obtain ⟨A', c', rfl⟩ := own_slice hown
    unfold Oper.wp
    simp [execOp, ho, resolve, invoke, builtin, hs, hx, hrun, Result.andThen]
    have := h A' c' w (by rw [List.append_nil]; exact hown) ⟨rfl, rfl, rfl, Nat.le_refl _, fun k _ _ => rfl⟩
    exact hK' _ _ this
theorem Wd.news {ok w A l c ws} (h : Wd ok w (.slice A l c) ws) : (A = none → l = 0) ∧ (u32s ws).length = l * 1 ∧ ∀ ad, A = some ad → ∀ j u, (u32s ws)[j]? = some u → w.cell? (ad.add j) = some u := by
  have h1 := h.len_eq
  have h2 := h.rd
  refine ⟨?_, by unfold u32s; simp [h1], ?_⟩
  · rintro rfl
    rcases Nat.eq_zero_or_pos ws.length with h | h
    · omega
    · obtain ⟨b, o, e, _⟩ := h2.cells h; cases e
  · rintro ad rfl; exact h2.news
set_option maxHeartbeats 1000000 in
theorem clone_c {ok w v ws} (h : Wd ok w v ws) (hl : ws.length ≤ 1000000000) : Calls Tryz.prog 232 #[v] w (RetW w fun w' v' => Wd (fresh w) w' v' ws) := by
  obtain ⟨A, c, rfl, hr⟩ := h
  cases A with
  | none =>
    have h0 : ws = [] := by
      rcases Nat.eq_zero_or_pos ws.length with h | h
      · exact List.eq_nil_of_length_eq_zero h
      · obtain ⟨b, o, e, _⟩ := hr.cells h; cases e
    subst h0
    go_enter Tryz.func232, Tryz.ntmps232
    go_wp2_with (first | (rw [Lib.run_eql_slice_nil _ _ 94 _ _ _ _ _ Tryz.under40]))
    go_ret
    exact ⟨_, _, _, rfl, b0 _, Wd.nil⟩
  | some A =>
    obtain ⟨i0, hi, hz0, hz1, hz2⟩ := info_parts' Tryz.info94
    have HN := Lib.hid (hr.al (o := .cells #[] 94)).news
    have H2 : Hid ((0 + ws.length) * 4 ≤ 140737488355328) := by unfold Hid; omega
    have H3 : Hid (0 + ws.length ≤ maxLen) := by unfold Hid maxLen; omega
    have HL : Hid ((u32s ws).length = ws.length * 1) := by unfold Hid u32s; simp
    have hown := lit_own w w.heap.size (Nat.le_refl _)
    have HO := Lib.hid hown
    clear hown
    have hb1 : w.heap.size ≤ (w.alloc (.cells #[] 94)).heap.size := by simp
    go_enter Tryz.func232, Tryz.ntmps232
    go_wp2_with (first | (rw [Lib.run_eql_slice_nil _ _ 94 _ _ _ _ _ Tryz.under40]) | (at_builtin; refine wpList_append_own _ rfl (.tmp 5) (.tmp 6) 40 rfl w.heap.size 94 i0 (.int .u32 0) 1 4 Tryz.under40 hi hz0 hz1 hz2 rfl (by decide) _ _ _ rfl HO.out A ws.length c (u32s ws) rfl HL.out HN.out u32s_one H3.out H2.out hb1 ?_))
    intro v' w1 hown' hgrow _
    obtain ⟨A2, c2, rfl⟩ := own_slice hown'
    go_wp2
    go_ret
    refine ⟨_, _, _, rfl, ?_, own_wd hown' hr.okw⟩
    exact ((Below.refl w.heap.size w).alloc (by omega) _).grown hgrow (by simp) (fun k hk => by
      simp [Value.ownBlock] at hk; omega)
set_option maxHeartbeats 1000000 in
theorem Neg_c {ok w v z B} (h : isZ ok w v z B) (hB : B ≤ 1000000000) : Calls Tryz.prog 170 #[v] w (RetZ w (fresh w) (-z) B) := by
  obtain ⟨n, A, l, c, rfl⟩ := h.shape
  obtain ⟨ws, hw, hl, hz⟩ := h.parts
  have hx := wv_len hw.okw hl
  have HZ := Lib.hid (show sg (!n) (wv ws) = -z by rw [hz, sg_not])
  clear hz
  obtain ⟨z0, z1, _⟩ := z2 w.heap.size
  go_enter Tryz.func170, Tryz.ntmps170
  go_wp2
  go_region_held3 (fun w' => ∀ b o, b < w.heap.size + 1 → w'.cell? ⟨b, o, none⟩ = ((w.alloc (Obj.cells #[Value.bool n, .slice A l c] 42)).alloc (Obj.cells #[Value.bool false, Value.slice none 0 0] 42)).cell? ⟨b, o, none⟩)
      (first
        | (exact fun _ _ _ => rfl)
        | assumption
        | (exact keep_of (by assumption) (by omega))
        | (exact keep_dr (by assumption) (by omega))
        | (exact keep_set1 (by assumption) (by omega) (by omega))
        | (exact keep_set2 (by assumption) (by omega) (by omega))
        | (exact keep_set4 (by assumption) (by omega) (by omega)))
      (first
        | (go_at_call 232; (with_reducible refine Calls.mono (clone_c (hw.below (bdr (bal (bal (b0 _))))) (by omega)) ?_); rintro e w1 ⟨A1, l1, c1, rfl, hb1, hv1⟩; have B1 := Bx.step ((Bx.refl (n := w.heap.size + 2) ((w.alloc (Obj.cells #[Value.bool n, .slice A l c] 42)).alloc (Obj.cells #[Value.bool false, Value.slice none 0 0] 42)) (by simp)).dr) hb1; have k1 := B1.cell)
        | (go_at_call 171; (with_reducible refine Calls.mono (made_c (z := -z) (B := B) _ hv1 HZ.out hx) ?_); rintro e w1 ⟨n5, A5, l5, c5, rfl, hb2, hr5⟩; have B2 := Bx.step B1 hb2; have k2 := B2.cell; have f2 := B2.frozen))
  go_wp2
  refine bodyPost_ret (v := .agg #[.bool n5, .slice A5 l5 c5]) ?_ rfl ?_
  · simp [results, Tryz.results170, go_sem, k2]
  · exact RetZ.boxF (bthen (bthen (bdr (bal (bal (b0 _)))) hb1) hb2) hr5 (by omega) (by simp)
end Go.Proofs.YtdkfdamihnieiaaGreat
end
