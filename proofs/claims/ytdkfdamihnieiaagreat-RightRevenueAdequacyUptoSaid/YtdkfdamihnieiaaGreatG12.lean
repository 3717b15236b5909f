/- Package net, part 5: Outs. -/
import Derived.Test.YtdkfdamihnieiaaGreatG11
set_option linter.unusedSimpArgs false
set_option linter.unusedVariables false
section
open Go Go.RowKit Go.Shelf
namespace Go.Proofs.YtdkfdamihnieiaaGreat
open Go.Proofs
attribute [local go_sem] Oper.semAt_some wide_fn wide_depth
/-- What Outs answers. -/
def outsS (b : Int) (ls : List Ln) (out : List Int) : Int := if chkS b ls ≠ 0 then chkS b ls else if risesL (-1) out && (decide (out.length = 0) || decide (out.getD (out.length - 1) 0 < ls.length)) then 0 else 1
set_option maxRecDepth 100000 in
set_option maxHeartbeats 4000000 in
theorem outs_c {w : World} {b : Int} {v vo : Value} {ls : List Ln} {out : List Int} (h : Vl w v ls) (ho : Vi w vo out) : Calls Tryz.prog 68 #[.agg #[.int .i64 b, v], vo] w (RetO w (.int .i64 (outsS b ls out))) := by
  have hC := check_c (b := b) (h.below (bal (b0 w) (o := .cells #[.int .i64 b, v] 24)))
  obtain ⟨A, l, c, rfl⟩ := h.shape
  obtain rfl := h.len
  have hR := fun W' (hb : Below w.heap.size w W') => rises_c (ho.below hb)
  have hI := fun W' (hb : Below w.heap.size w W') => ho.below hb
  obtain ⟨Ao, lo, co, rfl⟩ := ho.shape
  obtain rfl := ho.len
  have hm := h.lim
  have hm2 := ho.lim
  obtain ⟨z, hz⟩ : ∃ z, z = chkS b ls := ⟨_, rfl⟩
  rw [← hz] at hC
  obtain ⟨y, hy⟩ : ∃ y, y = outsS b ls out := ⟨_, rfl⟩
  obtain ⟨r, hr⟩ : ∃ r, r = risesL (-1) out := ⟨_, rfl⟩
  rw [← hr] at hR
  have he : y = if z ≠ 0 then z else if r && (decide (out.length = 0) || decide (out.getD (out.length - 1) 0 < ls.length)) then 0 else 1 := by rw [hy, hz, hr]; rfl
  rw [← hy]
  clear hy hz hr
  have HC := Lib.hid hC
  have HR := Lib.hid hR
  have HI := Lib.hid hI
  clear hC hR hI
  by_cases hz0 : z = 0
  · subst hz0
    rw [if_neg (by simp)] at he
    by_cases hr0 : r = true
    · subst hr0
      rw [Bool.true_and] at he
      by_cases h0 : out.length = 0
      · obtain rfl : y = 0 := by simpa [h0] using he
        rw [h0] at HR ⊢
        clear he h0 ho HI hm2 h
        refine (callsIn_wide (n := 10)).1 ?_
        refine callsIn_of_wp Tryz.func68 rfl trivial ?_ rfl
        simp only [Tryz.ntmps68, List.size_toArray, List.length_cons, List.length_nil, Nat.reduceAdd, Nat.reduceSub, Array.replicate_succ, Array.replicate_zero, List.push_toArray, List.append_toArray, List.nil_append, List.cons_append]
        gi_wp2_with (gi_at_call 52; (with_reducible refine CallsIn.mono (callsIn_wide.2 HC.out) ?_); rintro e w1 ⟨rfl, hb1⟩; have B1 := Bx.step (Bx.refl (n := w.heap.size + 1) (w.alloc (.cells #[.int .i64 b, .slice A ls.length c] 24)) (by simp)) hb1; have j1 := B1.cell; have Q1 := bthen (bal (b0 _)) hb1; have HRw := HR.out _ (bdr Q1))
        refine wpIn_region_yield (by kernel_rfl) (by kernel_rfl) (fun u => { tmps := #[.agg #[.int .i64 b, .slice A ls.length c], .slice Ao 0 co, .pointer (some ⟨w.heap.size, 0, none⟩), undef, .int .i64 0, .int .i64 0, .agg #[.int .i64 b, .slice A ls.length c], .int .i64 0, .int .i64 0, .bool false, undef, u 0, u 1, u 2, u 3, u 4, u 5, u 6, u 7, u 8, u 9, u 10, u 11, u 12, u 13, u 14, u 15, u 16, u 17, u 18, u 19], defers := [] }) (fun _ => undef) rfl (fun a b => a = b) (fun _ => rfl) (fun h1 h2 => h1.trans h2)
          (fun k v _ => match k with
        | 0 => v = .slice Ao 0 co
        | 1 => v = .bool true
        | 2 => v = .bool false
        | 3 => v = .bool false
        | 4 => v = .slice Ao 0 co
        | 5 => v = .int .i64 0
        | 6 => v = .bool false
        | 7 => v = .bool false
        | 18 => v = .bool false
        | 19 => v = .bool false
        | 8 => v = .tuple #[]
        | 9 => v = .tuple #[]
        | 10 => v = .tuple #[]
        | 11 => v = .tuple #[]
        | 12 => v = .tuple #[]
        | 13 => v = .tuple #[]
        | 14 => v = .tuple #[]
        | 15 => v = .tuple #[]
        | 16 => v = .tuple #[]
        | 17 => v = .tuple #[]
        | _ => True) (fun k v w1 w2 h e => by subst e; exact h) ?step ?done
        case step =>
          rintro u w' j o ho rfl hpre
          have hj : j < 20 := by have := (Array.getElem?_eq_some_iff.1 ho).1; simpa using this
          have c1 := (j1 w.heap.size 1 (by simp)).trans (World.cell?_alloc_new w _ 24 1)
          simp only [List.getElem?_toArray, List.getElem?_cons_zero, List.getElem?_cons_succ] at c1
          obtain rfl | rfl | rfl | rfl | rfl | rfl | rfl | rfl | rfl | rfl | rfl | rfl | rfl | rfl | rfl | rfl | rfl | rfl | rfl | rfl : j = 0 ∨ j = 1 ∨ j = 2 ∨ j = 3 ∨ j = 4 ∨ j = 5 ∨ j = 6 ∨ j = 7 ∨ j = 8 ∨ j = 9 ∨ j = 10 ∨ j = 11 ∨ j = 12 ∨ j = 13 ∨ j = 14 ∨ j = 15 ∨ j = 16 ∨ j = 17 ∨ j = 18 ∨ j = 19 := by omega
          · simp at ho
            subst ho
            simp [Region.binds] at hpre
            refine wpOpIn_step rfl (fun K' hK => ?_)
            simp only [Region.wanted]
            have HK := Lib.hid hK
            clear hK
            gi_wp2_with (gi_at_call 138; (with_reducible refine CallsIn.mono (callsIn_wide.2 HRw) ?_); rintro e w2 ⟨rfl, rfl⟩)
            exact HK.out _ _ ⟨.slice Ao 0 co, by simp [upd, undef, *], rfl, by first | rfl | trivial⟩
          · simp at ho
            subst ho
            simp [Region.binds] at hpre
            refine wpOpIn_step rfl (fun K' hK => ?_)
            simp only [Region.wanted]
            have HK := Lib.hid hK
            clear hK
            gi_wp2_with (gi_at_call 138; (with_reducible refine CallsIn.mono (callsIn_wide.2 HRw) ?_); rintro e w2 ⟨rfl, rfl⟩)
            exact HK.out _ _ ⟨.bool true, by simp [upd, undef, *], rfl, by first | rfl | trivial⟩
          · simp at ho
            subst ho
            simp [Region.binds] at hpre
            refine wpOpIn_step rfl (fun K' hK => ?_)
            simp only [Region.wanted]
            have HK := Lib.hid hK
            clear hK
            gi_wp2_with (gi_at_call 138; (with_reducible refine CallsIn.mono (callsIn_wide.2 HRw) ?_); rintro e w2 ⟨rfl, rfl⟩)
            exact HK.out _ _ ⟨.bool false, by simp [upd, undef, *], rfl, by first | rfl | trivial⟩
          · simp at ho
            subst ho
            simp [Region.binds] at hpre
            refine wpOpIn_step rfl (fun K' hK => ?_)
            simp only [Region.wanted]
            have HK := Lib.hid hK
            clear hK
            gi_wp2_with (gi_at_call 138; (with_reducible refine CallsIn.mono (callsIn_wide.2 HRw) ?_); rintro e w2 ⟨rfl, rfl⟩)
            exact HK.out _ _ ⟨.bool false, by simp [upd, undef, *], rfl, by first | rfl | trivial⟩
          · simp at ho
            subst ho
            simp [Region.binds] at hpre
            refine wpOpIn_step rfl (fun K' hK => ?_)
            simp only [Region.wanted]
            have HK := Lib.hid hK
            clear hK
            gi_wp2_with (gi_at_call 138; (with_reducible refine CallsIn.mono (callsIn_wide.2 HRw) ?_); rintro e w2 ⟨rfl, rfl⟩)
            exact HK.out _ _ ⟨.slice Ao 0 co, by simp [upd, undef, *], rfl, by first | rfl | trivial⟩
          · simp at ho
            subst ho
            simp [Region.binds] at hpre
            refine wpOpIn_step rfl (fun K' hK => ?_)
            simp only [Region.wanted]
            have HK := Lib.hid hK
            clear hK
            gi_wp2_with (gi_at_call 138; (with_reducible refine CallsIn.mono (callsIn_wide.2 HRw) ?_); rintro e w2 ⟨rfl, rfl⟩)
            exact HK.out _ _ ⟨.int .i64 0, by simp [upd, undef, *], rfl, by first | rfl | trivial⟩
          · simp at ho
            subst ho
            simp [Region.binds] at hpre
            refine wpOpIn_step rfl (fun K' hK => ?_)
            simp only [Region.wanted]
            have HK := Lib.hid hK
            clear hK
            gi_wp2_with (gi_at_call 138; (with_reducible refine CallsIn.mono (callsIn_wide.2 HRw) ?_); rintro e w2 ⟨rfl, rfl⟩)
            exact HK.out _ _ ⟨.bool false, by simp [upd, undef, *], rfl, by first | rfl | trivial⟩
          · simp at ho
            subst ho
            simp [Region.binds] at hpre
            refine wpOpIn_step rfl (fun K' hK => ?_)
            simp only [Region.wanted]
            have HK := Lib.hid hK
            clear hK
            gi_wp2_with (gi_at_call 138; (with_reducible refine CallsIn.mono (callsIn_wide.2 HRw) ?_); rintro e w2 ⟨rfl, rfl⟩)
            exact HK.out _ _ ⟨.bool false, by simp [upd, undef, *], rfl, by first | rfl | trivial⟩
          · simp at ho
            subst ho
            simp [Region.binds] at hpre
            refine wpOpIn_step rfl (fun K' hK => ?_)
            simp only [Region.wanted]
            have HK := Lib.hid hK
            clear hK
            gi_wp2_with (gi_at_call 138; (with_reducible refine CallsIn.mono (callsIn_wide.2 HRw) ?_); rintro e w2 ⟨rfl, rfl⟩)
            exact HK.out _ _ ⟨.tuple #[], by simp [upd, undef, *], rfl, by first | rfl | trivial⟩
          · simp at ho
            subst ho
            simp [Region.binds] at hpre
            refine wpOpIn_step rfl (fun K' hK => ?_)
            simp only [Region.wanted]
            have HK := Lib.hid hK
            clear hK
            gi_wp2_with (gi_at_call 138; (with_reducible refine CallsIn.mono (callsIn_wide.2 HRw) ?_); rintro e w2 ⟨rfl, rfl⟩)
            exact HK.out _ _ ⟨.tuple #[], by simp [upd, undef, *], rfl, by first | rfl | trivial⟩
          · simp at ho
            subst ho
            simp [Region.binds] at hpre
            refine wpOpIn_step rfl (fun K' hK => ?_)
            simp only [Region.wanted]
            have HK := Lib.hid hK
            clear hK
            gi_wp2_with (gi_at_call 138; (with_reducible refine CallsIn.mono (callsIn_wide.2 HRw) ?_); rintro e w2 ⟨rfl, rfl⟩)
            exact HK.out _ _ ⟨.tuple #[], by simp [upd, undef, *], rfl, by first | rfl | trivial⟩
          · simp at ho
            subst ho
            simp [Region.binds] at hpre
            refine wpOpIn_step rfl (fun K' hK => ?_)
            simp only [Region.wanted]
            have HK := Lib.hid hK
            clear hK
            gi_wp2_with (gi_at_call 138; (with_reducible refine CallsIn.mono (callsIn_wide.2 HRw) ?_); rintro e w2 ⟨rfl, rfl⟩)
            exact HK.out _ _ ⟨.tuple #[], by simp [upd, undef, *], rfl, by first | rfl | trivial⟩
          · simp at ho
            subst ho
            simp [Region.binds] at hpre
            refine wpOpIn_step rfl (fun K' hK => ?_)
            simp only [Region.wanted]
            have HK := Lib.hid hK
            clear hK
            gi_wp2_with (gi_at_call 138; (with_reducible refine CallsIn.mono (callsIn_wide.2 HRw) ?_); rintro e w2 ⟨rfl, rfl⟩)
            exact HK.out _ _ ⟨.tuple #[], by simp [upd, undef, *], rfl, by first | rfl | trivial⟩
          · simp at ho
            subst ho
            simp [Region.binds] at hpre
            refine wpOpIn_step rfl (fun K' hK => ?_)
            simp only [Region.wanted]
            have HK := Lib.hid hK
            clear hK
            gi_wp2_with (gi_at_call 138; (with_reducible refine CallsIn.mono (callsIn_wide.2 HRw) ?_); rintro e w2 ⟨rfl, rfl⟩)
            exact HK.out _ _ ⟨.tuple #[], by simp [upd, undef, *], rfl, by first | rfl | trivial⟩
          · simp at ho
            subst ho
            simp [Region.binds] at hpre
            refine wpOpIn_step rfl (fun K' hK => ?_)
            simp only [Region.wanted]
            have HK := Lib.hid hK
            clear hK
            gi_wp2_with (gi_at_call 138; (with_reducible refine CallsIn.mono (callsIn_wide.2 HRw) ?_); rintro e w2 ⟨rfl, rfl⟩)
            exact HK.out _ _ ⟨.tuple #[], by simp [upd, undef, *], rfl, by first | rfl | trivial⟩
          · simp at ho
            subst ho
            simp [Region.binds] at hpre
            refine wpOpIn_step rfl (fun K' hK => ?_)
            simp only [Region.wanted]
            have HK := Lib.hid hK
            clear hK
            gi_wp2_with (gi_at_call 138; (with_reducible refine CallsIn.mono (callsIn_wide.2 HRw) ?_); rintro e w2 ⟨rfl, rfl⟩)
            exact HK.out _ _ ⟨.tuple #[], by simp [upd, undef, *], rfl, by first | rfl | trivial⟩
          · simp at ho
            subst ho
            simp [Region.binds] at hpre
            refine wpOpIn_step rfl (fun K' hK => ?_)
            simp only [Region.wanted]
            have HK := Lib.hid hK
            clear hK
            gi_wp2_with (gi_at_call 138; (with_reducible refine CallsIn.mono (callsIn_wide.2 HRw) ?_); rintro e w2 ⟨rfl, rfl⟩)
            exact HK.out _ _ ⟨.tuple #[], by simp [upd, undef, *], rfl, by first | rfl | trivial⟩
          · simp at ho
            subst ho
            simp [Region.binds] at hpre
            refine wpOpIn_step rfl (fun K' hK => ?_)
            simp only [Region.wanted]
            have HK := Lib.hid hK
            clear hK
            gi_wp2_with (gi_at_call 138; (with_reducible refine CallsIn.mono (callsIn_wide.2 HRw) ?_); rintro e w2 ⟨rfl, rfl⟩)
            exact HK.out _ _ ⟨.tuple #[], by simp [upd, undef, *], rfl, by first | rfl | trivial⟩
          · simp at ho
            subst ho
            simp [Region.binds] at hpre
            refine wpOpIn_step rfl (fun K' hK => ?_)
            simp only [Region.wanted]
            have HK := Lib.hid hK
            clear hK
            gi_wp2_with (gi_at_call 138; (with_reducible refine CallsIn.mono (callsIn_wide.2 HRw) ?_); rintro e w2 ⟨rfl, rfl⟩)
            exact HK.out _ _ ⟨.bool false, by simp [upd, undef, *], rfl, by first | rfl | trivial⟩
          · simp at ho
            subst ho
            simp [Region.binds] at hpre
            refine wpOpIn_step rfl (fun K' hK => ?_)
            simp only [Region.wanted]
            have HK := Lib.hid hK
            clear hK
            gi_wp2_with (gi_at_call 138; (with_reducible refine CallsIn.mono (callsIn_wide.2 HRw) ?_); rintro e w2 ⟨rfl, rfl⟩)
            exact HK.out _ _ ⟨.bool false, by simp [upd, undef, *], rfl, by first | rfl | trivial⟩
        case done =>
          rintro u w' rfl hy
          have h19 : u 19 = .bool false := hy 19 (by simp)
          rw [h19]
          gi_wp2
          go_ret
          exact ⟨rfl, bdr Q1⟩
      · obtain ⟨bo, oo, rfl, hc⟩ := ho.at (by omega)
        have cx := hc (out.length - 1) (by omega)
        obtain ⟨x, hx⟩ : ∃ x, x = out.getD (out.length - 1) 0 := ⟨_, rfl⟩
        rw [← hx] at cx he
        have hbx := World.block_lt_of_cell? w _ cx
        simp only at hbx
        have CX := Lib.hid cx
        have h0' : 0 < out.length := by omega
        have hwr : IntKind.i64.wrap ((out.length : Int) - 1) = (out.length : Int) - 1 := by rw [IntKind.wrap_i64]; omega
        clear hx hc cx ho HI h
        by_cases hxl : x < ls.length
        · obtain rfl : y = 0 := by simpa [hxl] using he
          clear he
          refine (callsIn_wide (n := 10)).1 ?_
          refine callsIn_of_wp Tryz.func68 rfl trivial ?_ rfl
          simp only [Tryz.ntmps68, List.size_toArray, List.length_cons, List.length_nil, Nat.reduceAdd, Nat.reduceSub, Array.replicate_succ, Array.replicate_zero, List.push_toArray, List.append_toArray, List.nil_append, List.cons_append]
          gi_wp2_with (gi_at_call 52; (with_reducible refine CallsIn.mono (callsIn_wide.2 HC.out) ?_); rintro e w1 ⟨rfl, hb1⟩; have B1 := Bx.step (Bx.refl (n := w.heap.size + 1) (w.alloc (.cells #[.int .i64 b, .slice A ls.length c] 24)) (by simp)) hb1; have j1 := B1.cell; have Q1 := bthen (bal (b0 _)) hb1; have HRw := HR.out _ (bdr Q1))
          refine wpIn_region_yield (by kernel_rfl) (by kernel_rfl) (fun u => { tmps := #[.agg #[.int .i64 b, .slice A ls.length c], .slice (some ⟨bo, oo, none⟩) out.length co, .pointer (some ⟨w.heap.size, 0, none⟩), undef, .int .i64 0, .int .i64 0, .agg #[.int .i64 b, .slice A ls.length c], .int .i64 0, .int .i64 0, .bool false, undef, u 0, u 1, u 2, u 3, u 4, u 5, u 6, u 7, u 8, u 9, u 10, u 11, u 12, u 13, u 14, u 15, u 16, u 17, u 18, u 19], defers := [] }) (fun _ => undef) rfl (fun a b => a = b) (fun _ => rfl) (fun h1 h2 => h1.trans h2)
            (fun k v _ => match k with
        | 0 => v = (.slice (some ⟨bo, oo, none⟩) out.length co)
        | 1 => v = .bool true
        | 2 => v = .bool false
        | 3 => v = .bool false
        | 4 => v = (.slice (some ⟨bo, oo, none⟩) out.length co)
        | 5 => v = .int .i64 (out.length : Int)
        | 6 => v = .bool true
        | 7 => v = .bool true
        | 8 => v = (.slice (some ⟨bo, oo, none⟩) out.length co)
        | 9 => v = (.slice (some ⟨bo, oo, none⟩) out.length co)
        | 10 => v = .int .i64 (out.length : Int)
        | 11 => v = .int .i64 ((out.length : Int) - 1)
        | 12 => v = .pointer (some ⟨bo, oo + (out.length - 1), none⟩)
        | 13 => v = .int .i64 x
        | 14 => v = .pointer (some ⟨w.heap.size, 1, none⟩)
        | 15 => v = .slice A ls.length c
        | 16 => v = .int .i64 (ls.length : Int)
        | 17 => v = .bool false
        | 18 => v = .bool false
        | 19 => v = .bool false
        | _ => True) (fun k v w1 w2 h e => by subst e; exact h) ?step ?done
          case step =>
            rintro u w' j o ho rfl hpre
            have cx := ((bdr Q1).cell (p := ⟨bo, oo + (out.length - 1), none⟩) hbx).trans CX.out
            have hj : j < 20 := by have := (Array.getElem?_eq_some_iff.1 ho).1; simpa using this
            have c1 := (j1 w.heap.size 1 (by simp)).trans (World.cell?_alloc_new w _ 24 1)
            simp only [List.getElem?_toArray, List.getElem?_cons_zero, List.getElem?_cons_succ] at c1
            obtain rfl | rfl | rfl | rfl | rfl | rfl | rfl | rfl | rfl | rfl | rfl | rfl | rfl | rfl | rfl | rfl | rfl | rfl | rfl | rfl : j = 0 ∨ j = 1 ∨ j = 2 ∨ j = 3 ∨ j = 4 ∨ j = 5 ∨ j = 6 ∨ j = 7 ∨ j = 8 ∨ j = 9 ∨ j = 10 ∨ j = 11 ∨ j = 12 ∨ j = 13 ∨ j = 14 ∨ j = 15 ∨ j = 16 ∨ j = 17 ∨ j = 18 ∨ j = 19 := by omega
            · simp at ho
              subst ho
              simp [Region.binds] at hpre
              refine wpOpIn_step rfl (fun K' hK => ?_)
              simp only [Region.wanted]
              have HK := Lib.hid hK
              clear hK
              gi_wp2_with (gi_at_call 138; (with_reducible refine CallsIn.mono (callsIn_wide.2 HRw) ?_); rintro e w2 ⟨rfl, rfl⟩)
              exact HK.out _ _ ⟨(.slice (some ⟨bo, oo, none⟩) out.length co), by simp [upd, undef, *], rfl, by first | rfl | trivial⟩
            · simp at ho
              subst ho
              simp [Region.binds] at hpre
              refine wpOpIn_step rfl (fun K' hK => ?_)
              simp only [Region.wanted]
              have HK := Lib.hid hK
              clear hK
              gi_wp2_with (gi_at_call 138; (with_reducible refine CallsIn.mono (callsIn_wide.2 HRw) ?_); rintro e w2 ⟨rfl, rfl⟩)
              exact HK.out _ _ ⟨.bool true, by simp [upd, undef, *], rfl, by first | rfl | trivial⟩
            · simp at ho
              subst ho
              simp [Region.binds] at hpre
              refine wpOpIn_step rfl (fun K' hK => ?_)
              simp only [Region.wanted]
              have HK := Lib.hid hK
              clear hK
              gi_wp2_with (gi_at_call 138; (with_reducible refine CallsIn.mono (callsIn_wide.2 HRw) ?_); rintro e w2 ⟨rfl, rfl⟩)
              exact HK.out _ _ ⟨.bool false, by simp [upd, undef, *], rfl, by first | rfl | trivial⟩
            · simp at ho
              subst ho
              simp [Region.binds] at hpre
              refine wpOpIn_step rfl (fun K' hK => ?_)
              simp only [Region.wanted]
              have HK := Lib.hid hK
              clear hK
              gi_wp2_with (gi_at_call 138; (with_reducible refine CallsIn.mono (callsIn_wide.2 HRw) ?_); rintro e w2 ⟨rfl, rfl⟩)
              exact HK.out _ _ ⟨.bool false, by simp [upd, undef, *], rfl, by first | rfl | trivial⟩
            · simp at ho
              subst ho
              simp [Region.binds] at hpre
              refine wpOpIn_step rfl (fun K' hK => ?_)
              simp only [Region.wanted]
              have HK := Lib.hid hK
              clear hK
              gi_wp2_with (gi_at_call 138; (with_reducible refine CallsIn.mono (callsIn_wide.2 HRw) ?_); rintro e w2 ⟨rfl, rfl⟩)
              exact HK.out _ _ ⟨(.slice (some ⟨bo, oo, none⟩) out.length co), by simp [upd, undef, *], rfl, by first | rfl | trivial⟩
            · simp at ho
              subst ho
              simp [Region.binds] at hpre
              refine wpOpIn_step rfl (fun K' hK => ?_)
              simp only [Region.wanted]
              have HK := Lib.hid hK
              clear hK
              gi_wp2_with (gi_at_call 138; (with_reducible refine CallsIn.mono (callsIn_wide.2 HRw) ?_); rintro e w2 ⟨rfl, rfl⟩)
              exact HK.out _ _ ⟨.int .i64 (out.length : Int), by simp [upd, undef, *], rfl, by first | rfl | trivial⟩
            · simp at ho
              subst ho
              simp [Region.binds] at hpre
              refine wpOpIn_step rfl (fun K' hK => ?_)
              simp only [Region.wanted]
              have HK := Lib.hid hK
              clear hK
              gi_wp2_with (gi_at_call 138; (with_reducible refine CallsIn.mono (callsIn_wide.2 HRw) ?_); rintro e w2 ⟨rfl, rfl⟩)
              exact HK.out _ _ ⟨.bool true, by simp [upd, undef, *], rfl, by first | rfl | trivial⟩
            · simp at ho
              subst ho
              simp [Region.binds] at hpre
              refine wpOpIn_step rfl (fun K' hK => ?_)
              simp only [Region.wanted]
              have HK := Lib.hid hK
              clear hK
              gi_wp2_with (gi_at_call 138; (with_reducible refine CallsIn.mono (callsIn_wide.2 HRw) ?_); rintro e w2 ⟨rfl, rfl⟩)
              exact HK.out _ _ ⟨.bool true, by simp [upd, undef, *], rfl, by first | rfl | trivial⟩
            · simp at ho
              subst ho
              simp [Region.binds] at hpre
              refine wpOpIn_step rfl (fun K' hK => ?_)
              simp only [Region.wanted]
              have HK := Lib.hid hK
              clear hK
              gi_wp2_with (gi_at_call 138; (with_reducible refine CallsIn.mono (callsIn_wide.2 HRw) ?_); rintro e w2 ⟨rfl, rfl⟩)
              exact HK.out _ _ ⟨(.slice (some ⟨bo, oo, none⟩) out.length co), by simp [upd, undef, *], rfl, by first | rfl | trivial⟩
            · simp at ho
              subst ho
              simp [Region.binds] at hpre
              refine wpOpIn_step rfl (fun K' hK => ?_)
              simp only [Region.wanted]
              have HK := Lib.hid hK
              clear hK
              gi_wp2_with (gi_at_call 138; (with_reducible refine CallsIn.mono (callsIn_wide.2 HRw) ?_); rintro e w2 ⟨rfl, rfl⟩)
              exact HK.out _ _ ⟨(.slice (some ⟨bo, oo, none⟩) out.length co), by simp [upd, undef, *], rfl, by first | rfl | trivial⟩
            · simp at ho
              subst ho
              simp [Region.binds] at hpre
              refine wpOpIn_step rfl (fun K' hK => ?_)
              simp only [Region.wanted]
              have HK := Lib.hid hK
              clear hK
              gi_wp2_with (gi_at_call 138; (with_reducible refine CallsIn.mono (callsIn_wide.2 HRw) ?_); rintro e w2 ⟨rfl, rfl⟩)
              exact HK.out _ _ ⟨.int .i64 (out.length : Int), by simp [upd, undef, *], rfl, by first | rfl | trivial⟩
            · simp at ho
              subst ho
              simp [Region.binds] at hpre
              refine wpOpIn_step rfl (fun K' hK => ?_)
              simp only [Region.wanted]
              have HK := Lib.hid hK
              clear hK
              gi_wp2_with (gi_at_call 138; (with_reducible refine CallsIn.mono (callsIn_wide.2 HRw) ?_); rintro e w2 ⟨rfl, rfl⟩)
              exact HK.out _ _ ⟨.int .i64 ((out.length : Int) - 1), by simp [upd, undef, *], rfl, by first | rfl | trivial⟩
            · simp at ho
              subst ho
              simp [Region.binds] at hpre
              refine wpOpIn_step rfl (fun K' hK => ?_)
              simp only [Region.wanted]
              have HK := Lib.hid hK
              clear hK
              gi_wp2_with (gi_at_call 138; (with_reducible refine CallsIn.mono (callsIn_wide.2 HRw) ?_); rintro e w2 ⟨rfl, rfl⟩)
              exact HK.out _ _ ⟨.pointer (some ⟨bo, oo + (out.length - 1), none⟩), by simp [upd, undef, *], rfl, by first | rfl | trivial⟩
            · simp at ho
              subst ho
              simp [Region.binds] at hpre
              refine wpOpIn_step rfl (fun K' hK => ?_)
              simp only [Region.wanted]
              have HK := Lib.hid hK
              clear hK
              gi_wp2_with (gi_at_call 138; (with_reducible refine CallsIn.mono (callsIn_wide.2 HRw) ?_); rintro e w2 ⟨rfl, rfl⟩)
              exact HK.out _ _ ⟨.int .i64 x, by simp [upd, undef, *], rfl, by first | rfl | trivial⟩
            · simp at ho
              subst ho
              simp [Region.binds] at hpre
              refine wpOpIn_step rfl (fun K' hK => ?_)
              simp only [Region.wanted]
              have HK := Lib.hid hK
              clear hK
              gi_wp2_with (gi_at_call 138; (with_reducible refine CallsIn.mono (callsIn_wide.2 HRw) ?_); rintro e w2 ⟨rfl, rfl⟩)
              exact HK.out _ _ ⟨.pointer (some ⟨w.heap.size, 1, none⟩), by simp [upd, undef, *], rfl, by first | rfl | trivial⟩
            · simp at ho
              subst ho
              simp [Region.binds] at hpre
              refine wpOpIn_step rfl (fun K' hK => ?_)
              simp only [Region.wanted]
              have HK := Lib.hid hK
              clear hK
              gi_wp2_with (gi_at_call 138; (with_reducible refine CallsIn.mono (callsIn_wide.2 HRw) ?_); rintro e w2 ⟨rfl, rfl⟩)
              exact HK.out _ _ ⟨.slice A ls.length c, by simp [upd, undef, *], rfl, by first | rfl | trivial⟩
            · simp at ho
              subst ho
              simp [Region.binds] at hpre
              refine wpOpIn_step rfl (fun K' hK => ?_)
              simp only [Region.wanted]
              have HK := Lib.hid hK
              clear hK
              gi_wp2_with (gi_at_call 138; (with_reducible refine CallsIn.mono (callsIn_wide.2 HRw) ?_); rintro e w2 ⟨rfl, rfl⟩)
              exact HK.out _ _ ⟨.int .i64 (ls.length : Int), by simp [upd, undef, *], rfl, by first | rfl | trivial⟩
            · simp at ho
              subst ho
              simp [Region.binds] at hpre
              refine wpOpIn_step rfl (fun K' hK => ?_)
              simp only [Region.wanted]
              have HK := Lib.hid hK
              clear hK
              gi_wp2_with (gi_at_call 138; (with_reducible refine CallsIn.mono (callsIn_wide.2 HRw) ?_); rintro e w2 ⟨rfl, rfl⟩)
              exact HK.out _ _ ⟨.bool false, by simp [upd, undef, *], rfl, by first | rfl | trivial⟩
            · simp at ho
              subst ho
              simp [Region.binds] at hpre
              refine wpOpIn_step rfl (fun K' hK => ?_)
              simp only [Region.wanted]
              have HK := Lib.hid hK
              clear hK
              gi_wp2_with (gi_at_call 138; (with_reducible refine CallsIn.mono (callsIn_wide.2 HRw) ?_); rintro e w2 ⟨rfl, rfl⟩)
              exact HK.out _ _ ⟨.bool false, by simp [upd, undef, *], rfl, by first | rfl | trivial⟩
            · simp at ho
              subst ho
              simp [Region.binds] at hpre
              refine wpOpIn_step rfl (fun K' hK => ?_)
              simp only [Region.wanted]
              have HK := Lib.hid hK
              clear hK
              gi_wp2_with (gi_at_call 138; (with_reducible refine CallsIn.mono (callsIn_wide.2 HRw) ?_); rintro e w2 ⟨rfl, rfl⟩)
              exact HK.out _ _ ⟨.bool false, by simp [upd, undef, *], rfl, by first | rfl | trivial⟩
          case done =>
            rintro u w' rfl hy
            have h19 : u 19 = .bool false := hy 19 (by simp)
            rw [h19]
            gi_wp2
            go_ret
            exact ⟨rfl, bdr Q1⟩
        · obtain rfl : y = 1 := by simpa [h0, hxl] using he
          clear he
          refine (callsIn_wide (n := 10)).1 ?_
          refine callsIn_of_wp Tryz.func68 rfl trivial ?_ rfl
          simp only [Tryz.ntmps68, List.size_toArray, List.length_cons, List.length_nil, Nat.reduceAdd, Nat.reduceSub, Array.replicate_succ, Array.replicate_zero, List.push_toArray, List.append_toArray, List.nil_append, List.cons_append]
          gi_wp2_with (gi_at_call 52; (with_reducible refine CallsIn.mono (callsIn_wide.2 HC.out) ?_); rintro e w1 ⟨rfl, hb1⟩; have B1 := Bx.step (Bx.refl (n := w.heap.size + 1) (w.alloc (.cells #[.int .i64 b, .slice A ls.length c] 24)) (by simp)) hb1; have j1 := B1.cell; have Q1 := bthen (bal (b0 _)) hb1; have HRw := HR.out _ (bdr Q1))
          refine wpIn_region_yield (by kernel_rfl) (by kernel_rfl) (fun u => { tmps := #[.agg #[.int .i64 b, .slice A ls.length c], .slice (some ⟨bo, oo, none⟩) out.length co, .pointer (some ⟨w.heap.size, 0, none⟩), undef, .int .i64 0, .int .i64 0, .agg #[.int .i64 b, .slice A ls.length c], .int .i64 0, .int .i64 0, .bool false, undef, u 0, u 1, u 2, u 3, u 4, u 5, u 6, u 7, u 8, u 9, u 10, u 11, u 12, u 13, u 14, u 15, u 16, u 17, u 18, u 19], defers := [] }) (fun _ => undef) rfl (fun a b => a = b) (fun _ => rfl) (fun h1 h2 => h1.trans h2)
            (fun k v _ => match k with
        | 0 => v = (.slice (some ⟨bo, oo, none⟩) out.length co)
        | 1 => v = .bool true
        | 2 => v = .bool false
        | 3 => v = .bool false
        | 4 => v = (.slice (some ⟨bo, oo, none⟩) out.length co)
        | 5 => v = .int .i64 (out.length : Int)
        | 6 => v = .bool true
        | 7 => v = .bool true
        | 8 => v = (.slice (some ⟨bo, oo, none⟩) out.length co)
        | 9 => v = (.slice (some ⟨bo, oo, none⟩) out.length co)
        | 10 => v = .int .i64 (out.length : Int)
        | 11 => v = .int .i64 ((out.length : Int) - 1)
        | 12 => v = .pointer (some ⟨bo, oo + (out.length - 1), none⟩)
        | 13 => v = .int .i64 x
        | 14 => v = .pointer (some ⟨w.heap.size, 1, none⟩)
        | 15 => v = .slice A ls.length c
        | 16 => v = .int .i64 (ls.length : Int)
        | 17 => v = .bool true
        | 18 => v = .bool true
        | 19 => v = .bool true
        | _ => True) (fun k v w1 w2 h e => by subst e; exact h) ?step ?done
          case step =>
            rintro u w' j o ho rfl hpre
            have cx := ((bdr Q1).cell (p := ⟨bo, oo + (out.length - 1), none⟩) hbx).trans CX.out
            have hj : j < 20 := by have := (Array.getElem?_eq_some_iff.1 ho).1; simpa using this
            have c1 := (j1 w.heap.size 1 (by simp)).trans (World.cell?_alloc_new w _ 24 1)
            simp only [List.getElem?_toArray, List.getElem?_cons_zero, List.getElem?_cons_succ] at c1
            obtain rfl | rfl | rfl | rfl | rfl | rfl | rfl | rfl | rfl | rfl | rfl | rfl | rfl | rfl | rfl | rfl | rfl | rfl | rfl | rfl : j = 0 ∨ j = 1 ∨ j = 2 ∨ j = 3 ∨ j = 4 ∨ j = 5 ∨ j = 6 ∨ j = 7 ∨ j = 8 ∨ j = 9 ∨ j = 10 ∨ j = 11 ∨ j = 12 ∨ j = 13 ∨ j = 14 ∨ j = 15 ∨ j = 16 ∨ j = 17 ∨ j = 18 ∨ j = 19 := by omega
            · simp at ho
              subst ho
              simp [Region.binds] at hpre
              refine wpOpIn_step rfl (fun K' hK => ?_)
              simp only [Region.wanted]
              have HK := Lib.hid hK
              clear hK
              gi_wp2_with (gi_at_call 138; (with_reducible refine CallsIn.mono (callsIn_wide.2 HRw) ?_); rintro e w2 ⟨rfl, rfl⟩)
              exact HK.out _ _ ⟨(.slice (some ⟨bo, oo, none⟩) out.length co), by simp [upd, undef, *], rfl, by first | rfl | trivial⟩
            · simp at ho
              subst ho
              simp [Region.binds] at hpre
              refine wpOpIn_step rfl (fun K' hK => ?_)
              simp only [Region.wanted]
              have HK := Lib.hid hK
              clear hK
              gi_wp2_with (gi_at_call 138; (with_reducible refine CallsIn.mono (callsIn_wide.2 HRw) ?_); rintro e w2 ⟨rfl, rfl⟩)
              exact HK.out _ _ ⟨.bool true, by simp [upd, undef, *], rfl, by first | rfl | trivial⟩
            · simp at ho
              subst ho
              simp [Region.binds] at hpre
              refine wpOpIn_step rfl (fun K' hK => ?_)
              simp only [Region.wanted]
              have HK := Lib.hid hK
              clear hK
              gi_wp2_with (gi_at_call 138; (with_reducible refine CallsIn.mono (callsIn_wide.2 HRw) ?_); rintro e w2 ⟨rfl, rfl⟩)
              exact HK.out _ _ ⟨.bool false, by simp [upd, undef, *], rfl, by first | rfl | trivial⟩
            · simp at ho
              subst ho
              simp [Region.binds] at hpre
              refine wpOpIn_step rfl (fun K' hK => ?_)
              simp only [Region.wanted]
              have HK := Lib.hid hK
              clear hK
              gi_wp2_with (gi_at_call 138; (with_reducible refine CallsIn.mono (callsIn_wide.2 HRw) ?_); rintro e w2 ⟨rfl, rfl⟩)
              exact HK.out _ _ ⟨.bool false, by simp [upd, undef, *], rfl, by first | rfl | trivial⟩
            · simp at ho
              subst ho
              simp [Region.binds] at hpre
              refine wpOpIn_step rfl (fun K' hK => ?_)
              simp only [Region.wanted]
              have HK := Lib.hid hK
              clear hK
              gi_wp2_with (gi_at_call 138; (with_reducible refine CallsIn.mono (callsIn_wide.2 HRw) ?_); rintro e w2 ⟨rfl, rfl⟩)
              exact HK.out _ _ ⟨(.slice (some ⟨bo, oo, none⟩) out.length co), by simp [upd, undef, *], rfl, by first | rfl | trivial⟩
            · simp at ho
              subst ho
              simp [Region.binds] at hpre
              refine wpOpIn_step rfl (fun K' hK => ?_)
              simp only [Region.wanted]
              have HK := Lib.hid hK
              clear hK
              gi_wp2_with (gi_at_call 138; (with_reducible refine CallsIn.mono (callsIn_wide.2 HRw) ?_); rintro e w2 ⟨rfl, rfl⟩)
              exact HK.out _ _ ⟨.int .i64 (out.length : Int), by simp [upd, undef, *], rfl, by first | rfl | trivial⟩
            · simp at ho
              subst ho
              simp [Region.binds] at hpre
              refine wpOpIn_step rfl (fun K' hK => ?_)
              simp only [Region.wanted]
              have HK := Lib.hid hK
              clear hK
              gi_wp2_with (gi_at_call 138; (with_reducible refine CallsIn.mono (callsIn_wide.2 HRw) ?_); rintro e w2 ⟨rfl, rfl⟩)
              exact HK.out _ _ ⟨.bool true, by simp [upd, undef, *], rfl, by first | rfl | trivial⟩
            · simp at ho
              subst ho
              simp [Region.binds] at hpre
              refine wpOpIn_step rfl (fun K' hK => ?_)
              simp only [Region.wanted]
              have HK := Lib.hid hK
              clear hK
              gi_wp2_with (gi_at_call 138; (with_reducible refine CallsIn.mono (callsIn_wide.2 HRw) ?_); rintro e w2 ⟨rfl, rfl⟩)
              exact HK.out _ _ ⟨.bool true, by simp [upd, undef, *], rfl, by first | rfl | trivial⟩
            · simp at ho
              subst ho
              simp [Region.binds] at hpre
              refine wpOpIn_step rfl (fun K' hK => ?_)
              simp only [Region.wanted]
              have HK := Lib.hid hK
              clear hK
              gi_wp2_with (gi_at_call 138; (with_reducible refine CallsIn.mono (callsIn_wide.2 HRw) ?_); rintro e w2 ⟨rfl, rfl⟩)
              exact HK.out _ _ ⟨(.slice (some ⟨bo, oo, none⟩) out.length co), by simp [upd, undef, *], rfl, by first | rfl | trivial⟩
            · simp at ho
              subst ho
              simp [Region.binds] at hpre
              refine wpOpIn_step rfl (fun K' hK => ?_)
              simp only [Region.wanted]
              have HK := Lib.hid hK
              clear hK
              gi_wp2_with (gi_at_call 138; (with_reducible refine CallsIn.mono (callsIn_wide.2 HRw) ?_); rintro e w2 ⟨rfl, rfl⟩)
              exact HK.out _ _ ⟨(.slice (some ⟨bo, oo, none⟩) out.length co), by simp [upd, undef, *], rfl, by first | rfl | trivial⟩
            · simp at ho
              subst ho
              simp [Region.binds] at hpre
              refine wpOpIn_step rfl (fun K' hK => ?_)
              simp only [Region.wanted]
              have HK := Lib.hid hK
              clear hK
              gi_wp2_with (gi_at_call 138; (with_reducible refine CallsIn.mono (callsIn_wide.2 HRw) ?_); rintro e w2 ⟨rfl, rfl⟩)
              exact HK.out _ _ ⟨.int .i64 (out.length : Int), by simp [upd, undef, *], rfl, by first | rfl | trivial⟩
            · simp at ho
              subst ho
              simp [Region.binds] at hpre
              refine wpOpIn_step rfl (fun K' hK => ?_)
              simp only [Region.wanted]
              have HK := Lib.hid hK
              clear hK
              gi_wp2_with (gi_at_call 138; (with_reducible refine CallsIn.mono (callsIn_wide.2 HRw) ?_); rintro e w2 ⟨rfl, rfl⟩)
              exact HK.out _ _ ⟨.int .i64 ((out.length : Int) - 1), by simp [upd, undef, *], rfl, by first | rfl | trivial⟩
            · simp at ho
              subst ho
              simp [Region.binds] at hpre
              refine wpOpIn_step rfl (fun K' hK => ?_)
              simp only [Region.wanted]
              have HK := Lib.hid hK
              clear hK
              gi_wp2_with (gi_at_call 138; (with_reducible refine CallsIn.mono (callsIn_wide.2 HRw) ?_); rintro e w2 ⟨rfl, rfl⟩)
              exact HK.out _ _ ⟨.pointer (some ⟨bo, oo + (out.length - 1), none⟩), by simp [upd, undef, *], rfl, by first | rfl | trivial⟩
            · simp at ho
              subst ho
              simp [Region.binds] at hpre
              refine wpOpIn_step rfl (fun K' hK => ?_)
              simp only [Region.wanted]
              have HK := Lib.hid hK
              clear hK
              gi_wp2_with (gi_at_call 138; (with_reducible refine CallsIn.mono (callsIn_wide.2 HRw) ?_); rintro e w2 ⟨rfl, rfl⟩)
              exact HK.out _ _ ⟨.int .i64 x, by simp [upd, undef, *], rfl, by first | rfl | trivial⟩
            · simp at ho
              subst ho
              simp [Region.binds] at hpre
              refine wpOpIn_step rfl (fun K' hK => ?_)
              simp only [Region.wanted]
              have HK := Lib.hid hK
              clear hK
              gi_wp2_with (gi_at_call 138; (with_reducible refine CallsIn.mono (callsIn_wide.2 HRw) ?_); rintro e w2 ⟨rfl, rfl⟩)
              exact HK.out _ _ ⟨.pointer (some ⟨w.heap.size, 1, none⟩), by simp [upd, undef, *], rfl, by first | rfl | trivial⟩
            · simp at ho
              subst ho
              simp [Region.binds] at hpre
              refine wpOpIn_step rfl (fun K' hK => ?_)
              simp only [Region.wanted]
              have HK := Lib.hid hK
              clear hK
              gi_wp2_with (gi_at_call 138; (with_reducible refine CallsIn.mono (callsIn_wide.2 HRw) ?_); rintro e w2 ⟨rfl, rfl⟩)
              exact HK.out _ _ ⟨.slice A ls.length c, by simp [upd, undef, *], rfl, by first | rfl | trivial⟩
            · simp at ho
              subst ho
              simp [Region.binds] at hpre
              refine wpOpIn_step rfl (fun K' hK => ?_)
              simp only [Region.wanted]
              have HK := Lib.hid hK
              clear hK
              gi_wp2_with (gi_at_call 138; (with_reducible refine CallsIn.mono (callsIn_wide.2 HRw) ?_); rintro e w2 ⟨rfl, rfl⟩)
              exact HK.out _ _ ⟨.int .i64 (ls.length : Int), by simp [upd, undef, *], rfl, by first | rfl | trivial⟩
            · simp at ho
              subst ho
              simp [Region.binds] at hpre
              refine wpOpIn_step rfl (fun K' hK => ?_)
              simp only [Region.wanted]
              have HK := Lib.hid hK
              clear hK
              gi_wp2_with (gi_at_call 138; (with_reducible refine CallsIn.mono (callsIn_wide.2 HRw) ?_); rintro e w2 ⟨rfl, rfl⟩)
              exact HK.out _ _ ⟨.bool true, by simp [upd, undef, *], rfl, by first | rfl | trivial⟩
            · simp at ho
              subst ho
              simp [Region.binds] at hpre
              refine wpOpIn_step rfl (fun K' hK => ?_)
              simp only [Region.wanted]
              have HK := Lib.hid hK
              clear hK
              gi_wp2_with (gi_at_call 138; (with_reducible refine CallsIn.mono (callsIn_wide.2 HRw) ?_); rintro e w2 ⟨rfl, rfl⟩)
              exact HK.out _ _ ⟨.bool true, by simp [upd, undef, *], rfl, by first | rfl | trivial⟩
            · simp at ho
              subst ho
              simp [Region.binds] at hpre
              refine wpOpIn_step rfl (fun K' hK => ?_)
              simp only [Region.wanted]
              have HK := Lib.hid hK
              clear hK
              gi_wp2_with (gi_at_call 138; (with_reducible refine CallsIn.mono (callsIn_wide.2 HRw) ?_); rintro e w2 ⟨rfl, rfl⟩)
              exact HK.out _ _ ⟨.bool true, by simp [upd, undef, *], rfl, by first | rfl | trivial⟩
          case done =>
            rintro u w' rfl hy
            have h19 : u 19 = .bool true := hy 19 (by simp)
            rw [h19]
            gi_wp2
            go_ret
            exact ⟨rfl, bdr Q1⟩
    · obtain rfl : r = false := by simpa using hr0
      obtain rfl : y = 1 := by simpa using he
      clear he
      refine (callsIn_wide (n := 10)).1 ?_
      refine callsIn_of_wp Tryz.func68 rfl trivial ?_ rfl
      simp only [Tryz.ntmps68, List.size_toArray, List.length_cons, List.length_nil, Nat.reduceAdd, Nat.reduceSub, Array.replicate_succ, Array.replicate_zero, List.push_toArray, List.append_toArray, List.nil_append, List.cons_append]
      gi_wp2_with (gi_at_call 52; (with_reducible refine CallsIn.mono (callsIn_wide.2 HC.out) ?_); rintro e w1 ⟨rfl, hb1⟩; have B1 := Bx.step (Bx.refl (n := w.heap.size + 1) (w.alloc (.cells #[.int .i64 b, .slice A ls.length c] 24)) (by simp)) hb1; have j1 := B1.cell; have Q1 := bthen (bal (b0 _)) hb1; have HRw := HR.out _ (bdr Q1))
      refine wpIn_region_yield (by kernel_rfl) (by kernel_rfl) (fun u => { tmps := #[.agg #[.int .i64 b, .slice A ls.length c], .slice Ao out.length co, .pointer (some ⟨w.heap.size, 0, none⟩), undef, .int .i64 0, .int .i64 0, .agg #[.int .i64 b, .slice A ls.length c], .int .i64 0, .int .i64 0, .bool false, undef, u 0, u 1, u 2, u 3, u 4, u 5, u 6, u 7, u 8, u 9, u 10, u 11, u 12, u 13, u 14, u 15, u 16, u 17, u 18, u 19], defers := [] }) (fun _ => undef) rfl (fun a b => a = b) (fun _ => rfl) (fun h1 h2 => h1.trans h2)
        (fun k v _ => match k with
        | 0 => v = .slice Ao out.length co
        | 1 => v = .bool false
        | 2 => v = .bool true
        | 3 => v = .bool true
        | 4 => v = .tuple #[]
        | 5 => v = .tuple #[]
        | 6 => v = .tuple #[]
        | 7 => v = .tuple #[]
        | 8 => v = .tuple #[]
        | 9 => v = .tuple #[]
        | 10 => v = .tuple #[]
        | 11 => v = .tuple #[]
        | 12 => v = .tuple #[]
        | 13 => v = .tuple #[]
        | 14 => v = .tuple #[]
        | 15 => v = .tuple #[]
        | 16 => v = .tuple #[]
        | 17 => v = .tuple #[]
        | 18 => v = .tuple #[]
        | 19 => v = .bool true
        | _ => True) (fun k v w1 w2 h e => by subst e; exact h) ?step ?done
      case step =>
        rintro u w' j o ho rfl hpre
        have hj : j < 20 := by have := (Array.getElem?_eq_some_iff.1 ho).1; simpa using this
        have c1 := (j1 w.heap.size 1 (by simp)).trans (World.cell?_alloc_new w _ 24 1)
        simp only [List.getElem?_toArray, List.getElem?_cons_zero, List.getElem?_cons_succ] at c1
        obtain rfl | rfl | rfl | rfl | rfl | rfl | rfl | rfl | rfl | rfl | rfl | rfl | rfl | rfl | rfl | rfl | rfl | rfl | rfl | rfl : j = 0 ∨ j = 1 ∨ j = 2 ∨ j = 3 ∨ j = 4 ∨ j = 5 ∨ j = 6 ∨ j = 7 ∨ j = 8 ∨ j = 9 ∨ j = 10 ∨ j = 11 ∨ j = 12 ∨ j = 13 ∨ j = 14 ∨ j = 15 ∨ j = 16 ∨ j = 17 ∨ j = 18 ∨ j = 19 := by omega
        · simp at ho
          subst ho
          simp [Region.binds] at hpre
          refine wpOpIn_step rfl (fun K' hK => ?_)
          simp only [Region.wanted]
          have HK := Lib.hid hK
          clear hK
          gi_wp2_with (gi_at_call 138; (with_reducible refine CallsIn.mono (callsIn_wide.2 HRw) ?_); rintro e w2 ⟨rfl, rfl⟩)
          exact HK.out _ _ ⟨.slice Ao out.length co, by simp [upd, undef, *], rfl, by first | rfl | trivial⟩
        · simp at ho
          subst ho
          simp [Region.binds] at hpre
          refine wpOpIn_step rfl (fun K' hK => ?_)
          simp only [Region.wanted]
          have HK := Lib.hid hK
          clear hK
          gi_wp2_with (gi_at_call 138; (with_reducible refine CallsIn.mono (callsIn_wide.2 HRw) ?_); rintro e w2 ⟨rfl, rfl⟩)
          exact HK.out _ _ ⟨.bool false, by simp [upd, undef, *], rfl, by first | rfl | trivial⟩
        · simp at ho
          subst ho
          simp [Region.binds] at hpre
          refine wpOpIn_step rfl (fun K' hK => ?_)
          simp only [Region.wanted]
          have HK := Lib.hid hK
          clear hK
          gi_wp2_with (gi_at_call 138; (with_reducible refine CallsIn.mono (callsIn_wide.2 HRw) ?_); rintro e w2 ⟨rfl, rfl⟩)
          exact HK.out _ _ ⟨.bool true, by simp [upd, undef, *], rfl, by first | rfl | trivial⟩
        · simp at ho
          subst ho
          simp [Region.binds] at hpre
          refine wpOpIn_step rfl (fun K' hK => ?_)
          simp only [Region.wanted]
          have HK := Lib.hid hK
          clear hK
          gi_wp2_with (gi_at_call 138; (with_reducible refine CallsIn.mono (callsIn_wide.2 HRw) ?_); rintro e w2 ⟨rfl, rfl⟩)
          exact HK.out _ _ ⟨.bool true, by simp [upd, undef, *], rfl, by first | rfl | trivial⟩
        · simp at ho
          subst ho
          simp [Region.binds] at hpre
          refine wpOpIn_step rfl (fun K' hK => ?_)
          simp only [Region.wanted]
          have HK := Lib.hid hK
          clear hK
          gi_wp2_with (gi_at_call 138; (with_reducible refine CallsIn.mono (callsIn_wide.2 HRw) ?_); rintro e w2 ⟨rfl, rfl⟩)
          exact HK.out _ _ ⟨.tuple #[], by simp [upd, undef, *], rfl, by first | rfl | trivial⟩
        · simp at ho
          subst ho
          simp [Region.binds] at hpre
          refine wpOpIn_step rfl (fun K' hK => ?_)
          simp only [Region.wanted]
          have HK := Lib.hid hK
          clear hK
          gi_wp2_with (gi_at_call 138; (with_reducible refine CallsIn.mono (callsIn_wide.2 HRw) ?_); rintro e w2 ⟨rfl, rfl⟩)
          exact HK.out _ _ ⟨.tuple #[], by simp [upd, undef, *], rfl, by first | rfl | trivial⟩
        · simp at ho
          subst ho
          simp [Region.binds] at hpre
          refine wpOpIn_step rfl (fun K' hK => ?_)
          simp only [Region.wanted]
          have HK := Lib.hid hK
          clear hK
          gi_wp2_with (gi_at_call 138; (with_reducible refine CallsIn.mono (callsIn_wide.2 HRw) ?_); rintro e w2 ⟨rfl, rfl⟩)
          exact HK.out _ _ ⟨.tuple #[], by simp [upd, undef, *], rfl, by first | rfl | trivial⟩
        · simp at ho
          subst ho
          simp [Region.binds] at hpre
          refine wpOpIn_step rfl (fun K' hK => ?_)
          simp only [Region.wanted]
          have HK := Lib.hid hK
          clear hK
          gi_wp2_with (gi_at_call 138; (with_reducible refine CallsIn.mono (callsIn_wide.2 HRw) ?_); rintro e w2 ⟨rfl, rfl⟩)
          exact HK.out _ _ ⟨.tuple #[], by simp [upd, undef, *], rfl, by first | rfl | trivial⟩
        · simp at ho
          subst ho
          simp [Region.binds] at hpre
          refine wpOpIn_step rfl (fun K' hK => ?_)
          simp only [Region.wanted]
          have HK := Lib.hid hK
          clear hK
          gi_wp2_with (gi_at_call 138; (with_reducible refine CallsIn.mono (callsIn_wide.2 HRw) ?_); rintro e w2 ⟨rfl, rfl⟩)
          exact HK.out _ _ ⟨.tuple #[], by simp [upd, undef, *], rfl, by first | rfl | trivial⟩
        · simp at ho
          subst ho
          simp [Region.binds] at hpre
          refine wpOpIn_step rfl (fun K' hK => ?_)
          simp only [Region.wanted]
          have HK := Lib.hid hK
          clear hK
          gi_wp2_with (gi_at_call 138; (with_reducible refine CallsIn.mono (callsIn_wide.2 HRw) ?_); rintro e w2 ⟨rfl, rfl⟩)
          exact HK.out _ _ ⟨.tuple #[], by simp [upd, undef, *], rfl, by first | rfl | trivial⟩
        · simp at ho
          subst ho
          simp [Region.binds] at hpre
          refine wpOpIn_step rfl (fun K' hK => ?_)
          simp only [Region.wanted]
          have HK := Lib.hid hK
          clear hK
          gi_wp2_with (gi_at_call 138; (with_reducible refine CallsIn.mono (callsIn_wide.2 HRw) ?_); rintro e w2 ⟨rfl, rfl⟩)
          exact HK.out _ _ ⟨.tuple #[], by simp [upd, undef, *], rfl, by first | rfl | trivial⟩
        · simp at ho
          subst ho
          simp [Region.binds] at hpre
          refine wpOpIn_step rfl (fun K' hK => ?_)
          simp only [Region.wanted]
          have HK := Lib.hid hK
          clear hK
          gi_wp2_with (gi_at_call 138; (with_reducible refine CallsIn.mono (callsIn_wide.2 HRw) ?_); rintro e w2 ⟨rfl, rfl⟩)
          exact HK.out _ _ ⟨.tuple #[], by simp [upd, undef, *], rfl, by first | rfl | trivial⟩
        · simp at ho
          subst ho
          simp [Region.binds] at hpre
          refine wpOpIn_step rfl (fun K' hK => ?_)
          simp only [Region.wanted]
          have HK := Lib.hid hK
          clear hK
          gi_wp2_with (gi_at_call 138; (with_reducible refine CallsIn.mono (callsIn_wide.2 HRw) ?_); rintro e w2 ⟨rfl, rfl⟩)
          exact HK.out _ _ ⟨.tuple #[], by simp [upd, undef, *], rfl, by first | rfl | trivial⟩
        · simp at ho
          subst ho
          simp [Region.binds] at hpre
          refine wpOpIn_step rfl (fun K' hK => ?_)
          simp only [Region.wanted]
          have HK := Lib.hid hK
          clear hK
          gi_wp2_with (gi_at_call 138; (with_reducible refine CallsIn.mono (callsIn_wide.2 HRw) ?_); rintro e w2 ⟨rfl, rfl⟩)
          exact HK.out _ _ ⟨.tuple #[], by simp [upd, undef, *], rfl, by first | rfl | trivial⟩
        · simp at ho
          subst ho
          simp [Region.binds] at hpre
          refine wpOpIn_step rfl (fun K' hK => ?_)
          simp only [Region.wanted]
          have HK := Lib.hid hK
          clear hK
          gi_wp2_with (gi_at_call 138; (with_reducible refine CallsIn.mono (callsIn_wide.2 HRw) ?_); rintro e w2 ⟨rfl, rfl⟩)
          exact HK.out _ _ ⟨.tuple #[], by simp [upd, undef, *], rfl, by first | rfl | trivial⟩
        · simp at ho
          subst ho
          simp [Region.binds] at hpre
          refine wpOpIn_step rfl (fun K' hK => ?_)
          simp only [Region.wanted]
          have HK := Lib.hid hK
          clear hK
          gi_wp2_with (gi_at_call 138; (with_reducible refine CallsIn.mono (callsIn_wide.2 HRw) ?_); rintro e w2 ⟨rfl, rfl⟩)
          exact HK.out _ _ ⟨.tuple #[], by simp [upd, undef, *], rfl, by first | rfl | trivial⟩
        · simp at ho
          subst ho
          simp [Region.binds] at hpre
          refine wpOpIn_step rfl (fun K' hK => ?_)
          simp only [Region.wanted]
          have HK := Lib.hid hK
          clear hK
          gi_wp2_with (gi_at_call 138; (with_reducible refine CallsIn.mono (callsIn_wide.2 HRw) ?_); rintro e w2 ⟨rfl, rfl⟩)
          exact HK.out _ _ ⟨.tuple #[], by simp [upd, undef, *], rfl, by first | rfl | trivial⟩
        · simp at ho
          subst ho
          simp [Region.binds] at hpre
          refine wpOpIn_step rfl (fun K' hK => ?_)
          simp only [Region.wanted]
          have HK := Lib.hid hK
          clear hK
          gi_wp2_with (gi_at_call 138; (with_reducible refine CallsIn.mono (callsIn_wide.2 HRw) ?_); rintro e w2 ⟨rfl, rfl⟩)
          exact HK.out _ _ ⟨.tuple #[], by simp [upd, undef, *], rfl, by first | rfl | trivial⟩
        · simp at ho
          subst ho
          simp [Region.binds] at hpre
          refine wpOpIn_step rfl (fun K' hK => ?_)
          simp only [Region.wanted]
          have HK := Lib.hid hK
          clear hK
          gi_wp2_with (gi_at_call 138; (with_reducible refine CallsIn.mono (callsIn_wide.2 HRw) ?_); rintro e w2 ⟨rfl, rfl⟩)
          exact HK.out _ _ ⟨.tuple #[], by simp [upd, undef, *], rfl, by first | rfl | trivial⟩
        · simp at ho
          subst ho
          simp [Region.binds] at hpre
          refine wpOpIn_step rfl (fun K' hK => ?_)
          simp only [Region.wanted]
          have HK := Lib.hid hK
          clear hK
          gi_wp2_with (gi_at_call 138; (with_reducible refine CallsIn.mono (callsIn_wide.2 HRw) ?_); rintro e w2 ⟨rfl, rfl⟩)
          exact HK.out _ _ ⟨.bool true, by simp [upd, undef, *], rfl, by first | rfl | trivial⟩
      case done =>
        rintro u w' rfl hy
        have h19 : u 19 = .bool true := hy 19 (by simp)
        rw [h19]
        gi_wp2
        go_ret
        exact ⟨rfl, bdr Q1⟩
  · rw [if_pos hz0] at he
    subst he
    go_enter Tryz.func68, Tryz.ntmps68
    go_wp2_with (go_at_call 52; (with_reducible refine Calls.mono HC.out ?_); rintro e w1 ⟨rfl, hb1⟩)
    go_ret
    exact ⟨rfl, bthen (bal (b0 _)) hb1⟩
end Go.Proofs.YtdkfdamihnieiaaGreat
end
