/-
  The law QueryMatches returns true for every input, and its arguments read behind the call as before: no condition.
-/
import Derived.Test.YthcgiacjmfmamaaMW
import Derived.Deep.RegionHeld3
namespace Go.Proofs.Ythcgiacjmfmamaa.PA
set_option linter.unusedVariables false
set_option linter.unusedSimpArgs false
open Go.RowKit Go.Shelf Go.Proofs.YthcgiacjmfmamaaW.PrintWords
theorem z_keep0 {w4 W' : World} {a1 a2 : Addr} {v1 v2 : Value} (h1 : w4.cell? a1 = some v1) (h2 : w4.cell? a2 = some v2) (hb : Below w4.heap.size w4 W') : (W'.cell? a1 = some v1 ∧ W'.cell? a2 = some v2) ∧ Below w4.heap.size w4 W' :=
  ⟨⟨(hb.cell (World.block_lt_of_cell? w4 _ h1)).trans h1, (hb.cell (World.block_lt_of_cell? w4 _ h2)).trans h2⟩, hb⟩
theorem z_keep1 {w4 Wa W' : World} {a1 a2 : Addr} {v1 v2 : Value} (h1 : w4.cell? a1 = some v1) (h2 : w4.cell? a2 = some v2) (hb : Below Wa.heap.size Wa W') {A : Prop} (hA : A ∧ Below w4.heap.size w4 Wa) : (W'.cell? a1 = some v1 ∧ W'.cell? a2 = some v2) ∧ Below w4.heap.size w4 W' :=
  z_keep0 h1 h2 (hA.2.trans (hb.mono hA.2.size))
set_option maxRecDepth 100000 in
set_option maxHeartbeats 4000000 in
theorem matches_x (w : World) (qa qn m : Int) (ha : wfI qa) (hm : wfI m) : Calls Try.prog 3 #[.agg #[.int .i64 qa, .int .i64 qn], .int .i64 m] w fun e w' => e = .returned (.bool true) ∧ Below w.heap.size w w' := by
  have h1 := match_eq qa qn m
  have h2 := refmatch_eq (qn := qn) ha hm
  obtain ⟨t, ht⟩ : ∃ t, t = mt qa qn m := ⟨_, rfl⟩
  rw [← ht] at h1 h2
  have H1 := Aside0.mk h1
  have H2 := Aside0.mk h2
  have H3 := Aside0.mk (masks_eq qa qn)
  have H4 := Aside0.mk (refmasks_eq ha qn)
  have H5 := Aside0.mk (masksL_len qa qn)
  obtain ⟨l, hl⟩ : ∃ l, l = masksL qa qn 0 := ⟨_, rfl⟩
  rw [← hl] at H3 H4 H5
  clear h1 h2 ht ha hm hl
  go_enter Try.func3, Try.ntmps3
  go_wp2
  obtain ⟨W1, hW1⟩ : ∃ W1, W1 = w.alloc (.cells #[.int .i64 qa, .int .i64 qn] 23) := ⟨_, rfl⟩
  rw [← hW1]
  have hb1 : Below w.heap.size w W1 := by rw [hW1]; exact below_alloc (Below.refl _ _) _
  have bx : W1.heap[w.heap.size]? = some (.cells #[.int .i64 qa, .int .i64 qn] 23 (0, 0)) := by rw [hW1]; exact heap_alloc_new w _
  have q0 : W1.cell? ⟨w.heap.size, 0, none⟩ = some (.int .i64 qa) := (blk_cell bx 0).trans rfl
  have q1 : W1.cell? ⟨w.heap.size, 1, none⟩ = some (.int .i64 qn) := (blk_cell bx 1).trans rfl
  clear hW1 bx
  have Q0 := Aside0.mk q0
  have Q1 := Aside0.mk q1
  go_region_held3 (fun W' => (W'.cell? ⟨w.heap.size, 0, none⟩ = some (.int .i64 qa) ∧ W'.cell? ⟨w.heap.size, 1, none⟩ = some (.int .i64 qn)) ∧ Below W1.heap.size W1 W')
    (first | exact z_keep1 Q0.out Q1.out (by assumption) (by assumption) | exact z_keep0 Q0.out Q1.out (by first | exact Below.refl _ _ | exact below_drew (Below.refl _ _)))
    (first | ((with_reducible refine (query_Match.calls qa qn m t _ H1.out).mono ?_); rintro e w' ⟨rfl, hbm1⟩) | ((with_reducible refine (hedgerowref12_Match.calls qa qn m t _ H2.out).mono ?_); rintro e w' ⟨rfl, hbm2⟩) | ((with_reducible refine (query_Masks.calls 40 qa qn l _ H3.out).mono ?_); rintro e w' ⟨v, rfl, hRa, hba⟩; obtain ⟨Aa, ca, rfl, hca, hCa⟩ := Kd.R_reads hRa; have HCa := Aside0.mk hCa; clear hCa hRa) | ((with_reducible refine (hedgerowref12_Masks.calls 40 qa qn l _ H4.out).mono ?_); rintro e w' ⟨v, rfl, hRb, hbb⟩; obtain ⟨Ab, cb, rfl, hcb, hCb⟩ := Kd.R_reads hRb; have HCb := Aside0.mk hCb; have HCa2 := Aside0.mk (Kd.C_below HCa.out hbb); clear hCb hRb) | ((with_reducible refine (hedgerowlaw12_same.calls (l.length + 1) Aa ca l Ab cb l true _ HCa2.out hca HCb.out hcb (same_eq l (by have := H5.out; omega))).mono ?_); rintro e w' ⟨rfl, hbd⟩; have hbs := drawn_b hbd) | ((with_reducible refine (awake_x _).mono ?_); rintro e w' ⟨rfl, hbw⟩))
  all_goals
    rename_i hS
    have hBe := Aside0.mk (hb1.trans (hS.2.mono hb1.size))
    clear hS
    go_wp2
    go_ret
    exact ⟨rfl, hBe.out⟩
end Go.Proofs.Ythcgiacjmfmamaa.PA

namespace Go.Proofs.Ythcgiacjmfmamaa.QueryMatches
open Go.ChangeShapes Go.WideShapes Go.ChangeAt Go.RowKit
open Go.ChangeMaps (open_string shut_string)
set_option linter.unusedVariables false
set_option maxRecDepth 100000 in
theorem lifted (os : Os) (started : os.Started) (H : Type) (enc : TypeId × Value → H) :
    ReturnsInHanded {} Try.checked os 3 .any (Rows.queryMatchesSpec.pre6 enc Try.prog Try.f3 Rows.queryMatchesRow.domain false) (Rows.queryMatchesSpec.post enc Try.prog Try.f3 false true false false) := by
  refine returnsInHanded_of_change_sized (C := Try.checked) PA.own_kn started (by kernel_rfl) Try.func3
    (ChangeSpec.witness6 (enc := enc) (C := Try.checked) false ⟨#[], #[.agg #[.int .i64 0, .int .i64 0], .int .i64 0], []⟩ 8 (by kernel_rfl) (by kernel_rfl) (by kernel_rfl) (by kernel_rfl)) ?_
  intro W base args ds gs before hval0 hW hcnd hsz0 _
  have hval : ∀ (j : Nat) t v, Try.f3.params[j]? = some t → args[j]? = some v → Value.okWide Try.prog W .any base t v := hval0
  have hW' := hW
  obtain ⟨p, q, hA0, hV, rfl, hfz, hnd⟩ := hW
  have hA : DataW.TrodAll enc Try.prog W 0 (fun _ => true) true Try.f3.params.toList args.toList ds p := hA0
  rw [Try.params3] at hA hval
  obtain ⟨v0, vs0, d0, ds0, p0, q0, hargs, rfl, rfl, h0, r0⟩ := trodAll_cons hA
  obtain ⟨v1, vs1, d1, ds1, p1, q1, rfl, rfl, rfl, h1, r1⟩ := trodAll_cons r0
  obtain ⟨rfl, rfl, rfl⟩ := trodAll_nil r1
  obtain rfl : args = #[v0, v1] := by cases args; simp_all
  obtain ⟨rfl, rfl⟩ := trodVars_none hV
  have k0 := h0
  have lt0 : ∀ x ∈ p0, x.block < W.heap.size := by obtain ⟨m, hm⟩ := k0; exact DataW.trod_lt m _ _ _ hm
  obtain ⟨qa0, qn0, rfl, ha0, hn0⟩ := PA.open_query (hval 0 23 v0 rfl rfl) h0
  have k1 := h1
  have lt1 : ∀ x ∈ p1, x.block < W.heap.size := by obtain ⟨m, hm⟩ := k1; exact DataW.trod_lt m _ _ _ hm
  obtain ⟨m1, rfl, _, _, hm1⟩ := open_int Try.underlying3 (hval 1 3 v1 rfl rfl) h1
  clear hA0 hval0 hsz0
  refine (PA.matches_x W qa0 qn0 m1 ha0 hm1).mono fun e W' ⟨he, bel⟩ => ?_
  subst he
  exact ⟨_, rfl, _, _, _, [], _, [], hW', trodAll_mk1 (shut_bool Try.underlying4 _), (trodAll_cons_mk (Below.trod PA.laidOut (by kernel_rfl) (of_decide_eq_true (by kernel_rfl)) k0 bel lt0) (trodAll_cons_mk (Below.trod PA.laidOut (by kernel_rfl) (of_decide_eq_true (by kernel_rfl)) k1 bel lt1) trodAll_mk0)), rfl, bel.frame _, fun h => by cases h⟩
theorem over : Rows.queryMatchesRow.holds Try.pinned (OpenSpec.ofChange Rows.queryMatchesSpec) :=
  OpenClaim.holds_of_wide 3 Try.f3 rfl rfl rfl rfl rfl rfl rfl ⟨rfl, rfl, rfl, rfl, rfl⟩ rfl rfl rfl rfl rfl (by kernel_rfl) Try.func3 (by kernel_rfl)
    (of_decide_eq_true (by kernel_rfl)) (by unfold Func.isWrapper; first | (rw [if_pos (by decide +kernel)]; kernel_rfl) | (rw [if_neg (by decide +kernel)]; exact ⟨rfl, rfl⟩))
    (fun os started H enc _ => lifted os started H enc)
theorem proved : Rows.QueryMatchesSaid := over
#print axioms proved
end Go.Proofs.Ythcgiacjmfmamaa.QueryMatches
namespace Go.Proofs.Ythcgiacjmfmamaa
theorem queryMatches_holds : Rows.QueryMatchesSaid := QueryMatches.proved
end Go.Proofs.Ythcgiacjmfmamaa
