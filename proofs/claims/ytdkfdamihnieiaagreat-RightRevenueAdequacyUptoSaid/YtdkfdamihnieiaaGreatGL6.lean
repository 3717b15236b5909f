/- The statement RightRevenueAdequacy, where what comes in is of bulk at most 1048576: the call answers true and its arguments read as before. Conditions: the row's own bound on bulk, nothing else. -/
import Derived.Test.YtdkfdamihnieiaaGreatG37
import Derived.Test.YtdkfdamihnieiaaGreatG38
set_option linter.unusedSimpArgs false
set_option linter.unusedVariables false
section
open Go Go.RowKit Go.Shelf
namespace Go.Proofs.YtdkfdamihnieiaaGreat
open Go.Proofs Go.ChangeShapes Go.WideShapes Go.ChangeAt
section
variable {H : Type} {enc : TypeId × Value → H}
set_option maxRecDepth 100000 in
/-- A network that comes in. -/
theorem open_net {w : World} {r : Reach} {b0 base K : Nat} {spare : Nat → Bool} {held : Bool} {v : Value} {d : DataW H} {ps : List MemPlace} (ho : Value.okWide Tryz.prog w r b0 24 v) (h : DataW.Trod enc Tryz.prog w base spare held 24 v d ps) (hK : Rows.uptoBulk d ≤ K) : ∃ (b : Int) (vl : Value) (ls : List Ln), v = .agg #[.int .i64 b, vl] ∧ Vl w vl ls ∧ ls.length ≤ K := by
  obtain ⟨cs, rfl, hsz⟩ := okWide_struct Tryz.underlying24 ho
  rw [cellsOf24] at hsz
  obtain ⟨n, h⟩ := h
  obtain ⟨c0, c1, hcs⟩ := two_of (l := cs.toList) (by simpa using hsz)
  have hcs2 : cs = #[c0, c1] := by
    have := congrArg List.toArray hcs
    simpa using this
  subst hcs2
  obtain ⟨xs, n', _, hd, _, hxl, hf⟩ := DataW.trod_struct Tryz.underlying24 (show DataW.trod enc Tryz.prog w base spare held n 24 [c0, c1] = some (d, ps) from h)
  injection hd with hd1 hd2
  subst hd1
  have f0 := hf 0 _ rfl
  have f1 := hf 1 _ rfl
  simp [cellsOf3, cellsOf22] at f0 f1
  obtain ⟨x0, x1, rfl⟩ := two_of (show xs.length = 2 from hxl)
  obtain ⟨z0, e0, _, _⟩ := DataW.trod_int Tryz.underlying3 f0
  simp only [Rows.uptoBulk, Rows.uptoBulkAll, List.map_cons, List.map_nil] at hK
  obtain ⟨vl, ls, e1, hv, hl⟩ := open_vl (K := K) f1 (by first | omega | (simp only; omega))
  simp at e0 e1
  subst e0 e1
  exact ⟨z0, _, ls, rfl, hv, hl⟩
end
set_option maxRecDepth 100000 in
theorem l6_contract (H : Type) (enc : TypeId × Value → H) (W : World) (base : Nat) (args : Array Value) (ds gs : List (DataW H)) (before : List MemPlace)
    (hval : ∀ (j : Nat) t v, Tryz.f6.params[j]? = some t → args[j]? = some v → Value.okWide Tryz.prog W .any base t v)
    (hW : DataW.Whole enc Tryz.prog Tryz.f6.params.toList Rows.rightRevenueAdequacySpec.vars false W args.toList ds gs before) (hk : Rows.uptoSmall H (ds ++ gs) = true) :
    Calls Tryz.prog 6 args W fun e W' => ∃ v, e = .returned v ∧ Rows.rightRevenueAdequacySpec.post enc Tryz.prog Tryz.f6 false true false false W args v W' := by
  have hW' := hW
  obtain ⟨p, q, hA0, hV, rfl, hfz, hnd⟩ := hW
  have hA : DataW.TrodAll enc Tryz.prog W 0 (fun _ => true) true Tryz.f6.params.toList args.toList ds p := hA0
  rw [Tryz.params6] at hA hval
  obtain ⟨v0, vs0, d0, ds0, p0, q0, hargs, rfl, rfl, h0, r0⟩ := trodAll_cons hA
  obtain ⟨v1, vs1, d1, ds1, p1, q1, rfl, rfl, rfl, h1, r1⟩ := trodAll_cons r0
  obtain ⟨v2, vs2, d2, ds2, p2, q2, rfl, rfl, rfl, h2, r2⟩ := trodAll_cons r1
  obtain ⟨v3, vs3, d3, ds3, p3, q3, rfl, rfl, rfl, h3, r3⟩ := trodAll_cons r2
  obtain ⟨v4, vs4, d4, ds4, p4, q4, rfl, rfl, rfl, h4, r4⟩ := trodAll_cons r3
  obtain ⟨rfl, rfl, rfl⟩ := trodAll_nil r4
  obtain rfl : args = #[v0, v1, v2, v3, v4] := by cases args; simp_all
  obtain ⟨rfl, rfl⟩ := trodVars_none hV
  clear hA0
  simp only [List.append_nil] at hW' hk
  have hB := uptoBound hk
  simp only [Rows.uptoBulkAll] at hB
  obtain ⟨fu1, t1⟩ := arg_slice Tryz.underlying25 (hval 1 25 v1 rfl rfl) h1
  obtain ⟨fu2, t2⟩ := arg_slice Tryz.underlying50 (hval 2 50 v2 rfl rfl) h2
  obtain ⟨fu3, t3⟩ := arg_slice Tryz.underlying26 (hval 3 26 v3 rfl rfl) h3
  obtain ⟨fu4, t4⟩ := arg_slice Tryz.underlying26 (hval 4 26 v4 rfl rfl) h4
  obtain ⟨b, vn, ls, e0, hn, -⟩ := open_net (K := 1048576) (hval 0 24 v0 rfl rfl) h0 (by omega)
  obtain ⟨vo, out, e1, ho, -, -⟩ := open_vi (K := 1048576) Tryz.underlying25 Tryz.underlying3 cellsOf3 t1 (by simp only; omega)
  obtain ⟨vr, rs, e2, hr, -, -⟩ := open_vr (K := 1048576) t2 (by simp only; omega)
  obtain ⟨vb, bs, e3, hb, -⟩ := open_vq (K := 1048576) t3 (by simp only; omega)
  obtain ⟨vl, lq, e4, hl, -⟩ := open_vq (K := 1048576) t4 (by simp only; omega)
  injection e1 with e1
  injection e2 with e2
  injection e3 with e3
  injection e4 with e4
  subst e0 e1 e2 e3 e4
  refine (rightRevenue_c hn ho hr hb hl (by omega) (Nat.le_refl _)).mono fun e W' ⟨he, hbw⟩ => ?_
  subst he
  have hl0 : ∀ x ∈ p0, x.block < W.heap.size := fun x hx => hW'.lt x (by simp [hx])
  have hl1 : ∀ x ∈ p1, x.block < W.heap.size := fun x hx => hW'.lt x (by simp [hx])
  have hl2 : ∀ x ∈ p2, x.block < W.heap.size := fun x hx => hW'.lt x (by simp [hx])
  have hl3 : ∀ x ∈ p3, x.block < W.heap.size := fun x hx => hW'.lt x (by simp [hx])
  have hl4 : ∀ x ∈ p4, x.block < W.heap.size := fun x hx => hW'.lt x (by simp [hx])
  exact ⟨_, rfl, post_of_below (pa := p0 ++ (p1 ++ (p2 ++ (p3 ++ p4)))) (pv := []) hW' (fun _ _ _ => trodAll_cons_mk (shut_bool Tryz.underlying4 _) trodAll_mk0)
    (fun sp hs => trodAll_cons_mk (arg_stays (by kernel_rfl) (of_decide_eq_true (by kernel_rfl)) h0 hbw hl0 fun x hx => hs x (by simp [hx]))
      (trodAll_cons_mk (arg_stays (by kernel_rfl) (of_decide_eq_true (by kernel_rfl)) h1 hbw hl1 fun x hx => hs x (by simp [hx]))
        (trodAll_cons_mk (arg_stays (by kernel_rfl) (of_decide_eq_true (by kernel_rfl)) h2 hbw hl2 fun x hx => hs x (by simp [hx]))
          (trodAll_mk2 (arg_stays (by kernel_rfl) (of_decide_eq_true (by kernel_rfl)) h3 hbw hl3 fun x hx => hs x (by simp [hx]))
            (arg_stays (by kernel_rfl) (of_decide_eq_true (by kernel_rfl)) h4 hbw hl4 fun x hx => hs x (by simp [hx]))))))
    (fun _ _ => rfl) (List.append_nil _).symm hbw (ok_one (by kernel_rfl) rfl (okWide_bool_mk Tryz.underlying4 _))⟩
set_option maxRecDepth 100000 in
theorem l6_lifted (os : Os) (started : os.Started) (H : Type) (enc : TypeId × Value → H) (F : Stop.Interp) :
    ReturnsInHanded {} Tryz.checked os 6 .any ((Rows.OpenSpec.upto Rows.rightRevenueAdequacySpec).pre6 enc Tryz.prog Tryz.f6 Rows.rightRevenueAdequacyUptoRow.domain false) (((Rows.OpenSpec.upto Rows.rightRevenueAdequacySpec).at F).post enc Tryz.prog Tryz.f6 false true false false) := by
  refine returnsInHanded_of_cond (C := Tryz.checked) (s := Rows.OpenSpec.upto Rows.rightRevenueAdequacySpec) (k := Rows.uptoSmall) rfl tryzOwn started (by kernel_rfl) Tryz.func6
    (OpenSpec.witness (enc := enc) (C := Tryz.checked) (s := Rows.OpenSpec.upto Rows.rightRevenueAdequacySpec) (k := Rows.uptoSmall) rfl false ⟨#[], #[.agg #[.int .i64 0, .slice none 0 0], .slice none 0 0, .slice none 0 0, .slice none 0 0, .slice none 0 0], []⟩ 8 (by kernel_rfl) (by kernel_rfl) (by kernel_rfl)
      (x := ([.agg [.lit (.int .i64 0), .nil], .nil, .nil, .nil, .nil], [], [])) (by kernel_rfl) rfl (by kernel_rfl)) ?_
  intro W base args ds gs before hval hW _ hk _
  exact l6_contract H enc W base args ds gs before hval hW hk
/-- 'pylonlaw38.RightRevenueAdequacy' up to the bound. -/
theorem rightRevenueAdequacy_upto : Rows.RightRevenueAdequacyUptoSaid :=
  OpenClaim.holds_of_cond 6 Tryz.f6 rfl rfl rfl rfl rfl rfl rfl ⟨rfl, rfl, rfl, rfl, rfl⟩ rfl rfl rfl rfl rfl (by kernel_rfl) Tryz.func6 (by kernel_rfl)
    (of_decide_eq_true (by kernel_rfl)) (by unfold Func.isWrapper; first | (rw [if_pos (by decide +kernel)]; kernel_rfl) | (rw [if_neg (by decide +kernel)]; exact ⟨rfl, rfl⟩))
    (fun os started H enc _ F => l6_lifted os started H enc F)
end Go.Proofs.YtdkfdamihnieiaaGreat
end
