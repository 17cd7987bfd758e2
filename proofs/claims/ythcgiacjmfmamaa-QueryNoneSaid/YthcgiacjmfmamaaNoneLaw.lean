/-
  The law QueryNone returns true for every input, and its arguments read behind the call as before: no condition.
-/
import Derived.Test.YthcgiacjmfmamaaME
import Derived.Test.YthcgiacjmfmamaaMW
namespace Go.Proofs.Ythcgiacjmfmamaa.PA
set_option linter.unusedVariables false
set_option linter.unusedSimpArgs false
open Go.RowKit Go.Shelf Go.Proofs.YthcgiacjmfmamaaW.PrintWords
theorem told_none {cf : TB → TB → Int} {qa qn : Int} {hb : TB → Bool} {L' : List TB} (h : Told cf (fnd qa qn hb []) L') : L' = [] := by
  have h1 := h.length
  have h2 := fnd_len qa qn hb []
  exact List.length_eq_zero_iff.1 (by simp at h2; rw [h1, h2]; rfl)
/-- A row of nothing. -/
def NoneIs (w : World) (e : Ending) (w' : World) : Prop := ∃ A c, e = .returned (.slice A 0 c) ∧ Below w.heap.size w w'
theorem none_ids (w : World) (qa qn : Int) : Calls Try.prog 26 #[.pointer none, .agg #[.int .i64 qa, .int .i64 qn]] w (NoneIs w) := by
  refine (ids_x w (base := 0) (L := []) (.inl ⟨rfl, rfl⟩) (by decide) qa qn).mono ?_
  rintro e w' ⟨v, L', rfl, hb, hI, hT⟩
  rw [told_none hT] at hI
  obtain ⟨A, c, rfl, _⟩ := Kd.R_reads hI
  exact ⟨A, c, rfl, hb⟩
theorem none_within (w : World) (qa qn x0 y0 x1 y1 : Int) : Calls Try.prog 21 #[.pointer none, .agg #[.int .i64 qa, .int .i64 qn], .agg #[.int .i64 x0, .int .i64 y0, .int .i64 x1, .int .i64 y1]] w (NoneIs w) := by
  refine (within_x w (base := 0) (L := []) (.inl ⟨rfl, rfl⟩) (by decide) qa qn x0 y0 x1 y1).mono ?_
  rintro e w' ⟨v, L', rfl, hb, hI, hT⟩
  rw [told_none hT] at hI
  obtain ⟨A, c, rfl, _⟩ := Kd.R_reads hI
  exact ⟨A, c, rfl, hb⟩
theorem none_near (w : World) (qa qn px py dd : Int) : Calls Try.prog 24 #[.pointer none, .agg #[.int .i64 qa, .int .i64 qn], .int .i64 px, .int .i64 py, .int .i64 dd] w (NoneIs w) := by
  refine (near_x w (base := 0) (L := []) (.inl ⟨rfl, rfl⟩) (by decide) qa qn px py dd).mono ?_
  rintro e w' ⟨v, L1, L', rfl, hb, hI, hT1, hT2⟩
  have e1 := told_none hT1
  subst e1
  have e2 : L' = [] := List.length_eq_zero_iff.1 hT2.length
  rw [e2] at hI
  obtain ⟨A, c, rfl, _⟩ := Kd.R_reads hI
  exact ⟨A, c, rfl, hb⟩
theorem none_count (w : World) (qa qn : Int) : Calls Try.prog 29 #[.pointer none, .agg #[.int .i64 qa, .int .i64 qn]] w fun e w' => e = .returned (.int .i64 0) ∧ Below w.heap.size w w' := by
  refine (count_x w (base := 0) (L := []) (.inl ⟨rfl, rfl⟩) (by decide) qa qn).mono ?_
  rintro e w' ⟨rfl, hb⟩
  exact ⟨rfl, hb⟩
theorem none_all (w : World) (qa qn : Int) : Calls Try.prog 33 #[.pointer none, .agg #[.int .i64 qa, .int .i64 qn], .int .i64 9] w (NoneIs w) := by
  refine (callsIn_wide.1 (all_x w (base := 0) (L := []) (.inl ⟨rfl, rfl⟩) (by decide) qa qn 9 (by decide) [] (fun L' hT => told_none hT) (by decide))).mono ?_
  rintro e w' ⟨v, rfl, hb, hA⟩
  obtain ⟨A, c, rfl, _⟩ := hA.reads (by decide)
  exact ⟨A, c, rfl, hb⟩
set_option maxRecDepth 100000 in
set_option maxHeartbeats 4000000 in
theorem lawnone_x (w : World) (qa qn px py dd : Int) :
    Calls Try.prog 10 #[.agg #[.int .i64 qa, .int .i64 qn], .agg #[.int .i64 px, .int .i64 py, .int .i64 dd]] w fun e w' => e = .returned (.bool true) ∧ Below w.heap.size w w' := by
  obtain ⟨w1, hw1⟩ : ∃ w1, w1 = (w.alloc (.cells #[.int .i64 qa, .int .i64 qn] 23)).alloc (.cells #[.int .i64 px, .int .i64 py, .int .i64 dd] 42) := ⟨_, rfl⟩
  have hb1 : Below w.heap.size w w1 := by rw [hw1]; exact below_alloc (below_alloc (Below.refl _ _) _) _
  have bq : w1.heap[w.heap.size]? = some (.cells #[.int .i64 qa, .int .i64 qn] 23 (0, 0)) := by rw [hw1, heap_old _ _ _ (by simp)]; exact heap_alloc_new w _
  have br : w1.heap[w.heap.size + 1]? = some (.cells #[.int .i64 px, .int .i64 py, .int .i64 dd] 42 (0, 0)) := by
    rw [hw1]
    have := heap_alloc_new (w.alloc (.cells #[.int .i64 qa, .int .i64 qn] 23)) (.cells #[.int .i64 px, .int .i64 py, .int .i64 dd] 42)
    rw [World.size_alloc] at this; exact this
  have q0 : w1.cell? ⟨w.heap.size, 0, none⟩ = some (.int .i64 qa) := (blk_cell bq 0).trans rfl
  have q1 : w1.cell? ⟨w.heap.size, 1, none⟩ = some (.int .i64 qn) := (blk_cell bq 1).trans rfl
  have q2 : w1.cell? ⟨w.heap.size + 1, 0, none⟩ = some (.int .i64 px) := (blk_cell br 0).trans rfl
  have q3 : w1.cell? ⟨w.heap.size + 1, 1, none⟩ = some (.int .i64 py) := (blk_cell br 1).trans rfl
  have q4 : w1.cell? ⟨w.heap.size + 1, 2, none⟩ = some (.int .i64 dd) := (blk_cell br 2).trans rfl
  have HB1 := Aside0.mk hb1
  clear bq br hb1
  go_enter Try.func10, Try.ntmps10
  go_wp2_with fail
  rw [← hw1]
  clear hw1
  refine (none_ids w1 qa qn).mono ?_
  rintro e w2 ⟨A2, c2, rfl, hb2⟩
  have HB2 := Aside0.mk (HB1.out.trans (hb2.mono HB1.out.size))
  have r0 := cell_b hb2 q0
  have r1 := cell_b hb2 q1
  have r2 := cell_b hb2 q2
  have r3 := cell_b hb2 q3
  have r4 := cell_b hb2 q4
  clear q0 q1 q2 q3 q4 hb2
  go_wp2_with fail
  refine (none_count w2 qa qn).mono ?_
  rintro e w3 ⟨rfl, hb3⟩
  have HB3 := Aside0.mk (HB2.out.trans (hb3.mono HB2.out.size))
  have q0 := cell_b hb3 r0
  have q1 := cell_b hb3 r1
  have q2 := cell_b hb3 r2
  have q3 := cell_b hb3 r3
  have q4 := cell_b hb3 r4
  clear r0 r1 r2 r3 r4 hb3
  go_wp2_with fail
  refine (none_all w3 qa qn).mono ?_
  rintro e w4 ⟨A4, c4, rfl, hb4⟩
  have HB4 := Aside0.mk (HB3.out.trans (hb4.mono HB3.out.size))
  have r0 := cell_b hb4 q0
  have r1 := cell_b hb4 q1
  have r2 := cell_b hb4 q2
  have r3 := cell_b hb4 q3
  have r4 := cell_b hb4 q4
  clear q0 q1 q2 q3 q4 hb4
  go_wp2_with fail
  refine (none_within w4 qa qn _ _ _ _).mono ?_
  rintro e w5 ⟨A5, c5, rfl, hb5⟩
  have HB5 := Aside0.mk (HB4.out.trans (hb5.mono HB4.out.size))
  have q0 := cell_b hb5 r0
  have q1 := cell_b hb5 r1
  have q2 := cell_b hb5 r2
  have q3 := cell_b hb5 r3
  have q4 := cell_b hb5 r4
  clear r0 r1 r2 r3 r4 hb5
  go_wp2_with fail
  refine (none_near w5 qa qn px py dd).mono ?_
  rintro e w6 ⟨A6, c6, rfl, hb6⟩
  have HB6 := Aside0.mk (HB5.out.trans (hb6.mono HB5.out.size))
  have r0 := cell_b hb6 q0
  have r1 := cell_b hb6 q1
  have r2 := cell_b hb6 q2
  have r3 := cell_b hb6 q3
  have r4 := cell_b hb6 q4
  clear q0 q1 q2 q3 q4 hb6
  go_wp2_with fail
  refine (awake_x w6).mono ?_
  rintro e w7 ⟨rfl, hb7⟩
  have HB7 := Aside0.mk (HB6.out.trans (hb7.mono HB6.out.size))
  go_wp2
  go_ret
  exact ⟨rfl, HB7.out⟩
end Go.Proofs.Ythcgiacjmfmamaa.PA

namespace Go.Proofs.Ythcgiacjmfmamaa.QueryNone
open Go.ChangeShapes Go.WideShapes Go.ChangeAt Go.RowKit
open Go.ChangeMaps (open_string shut_string)
set_option linter.unusedVariables false
set_option maxRecDepth 100000 in
theorem lifted (os : Os) (started : os.Started) (H : Type) (enc : TypeId × Value → H) :
    ReturnsInHanded {} Try.checked os 10 .any (Rows.queryNoneSpec.pre6 enc Try.prog Try.f10 Rows.queryNoneRow.domain false) (Rows.queryNoneSpec.post enc Try.prog Try.f10 false true false false) := by
  refine returnsInHanded_of_change_sized (C := Try.checked) PA.own_kn started (by kernel_rfl) Try.func10
    (ChangeSpec.witness6 (enc := enc) (C := Try.checked) false ⟨#[], #[.agg #[.int .i64 0, .int .i64 0], .agg #[.int .i64 0, .int .i64 0, .int .i64 0]], []⟩ 8 (by kernel_rfl) (by kernel_rfl) (by kernel_rfl) (by kernel_rfl)) ?_
  intro W base args ds gs before hval0 hW hcnd hsz0 _
  have hval : ∀ (j : Nat) t v, Try.f10.params[j]? = some t → args[j]? = some v → Value.okWide Try.prog W .any base t v := hval0
  have hW' := hW
  obtain ⟨p, q, hA0, hV, rfl, hfz, hnd⟩ := hW
  have hA : DataW.TrodAll enc Try.prog W 0 (fun _ => true) true Try.f10.params.toList args.toList ds p := hA0
  rw [Try.params10] at hA hval
  obtain ⟨v0, vs0, d0, ds0, p0, q0, hargs, rfl, rfl, h0, r0⟩ := trodAll_cons hA
  obtain ⟨v1, vs1, d1, ds1, p1, q1, rfl, rfl, rfl, h1, r1⟩ := trodAll_cons r0
  obtain ⟨rfl, rfl, rfl⟩ := trodAll_nil r1
  obtain rfl : args = #[v0, v1] := by cases args; simp_all
  obtain ⟨rfl, rfl⟩ := trodVars_none hV
  have k0 := h0
  have lt0 : ∀ x ∈ p0, x.block < W.heap.size := by obtain ⟨m, hm⟩ := k0; exact DataW.trod_lt m _ _ _ hm
  obtain ⟨qa0, qn0, rfl, ha0, hn0⟩ := PA.open_query (hval 0 23 v0 rfl rfl) h0
  have k1 := h1
  have lt1 : ∀ x ∈ p1, x.block < W.heap.size := by obtain ⟨m, hm⟩ := k1; exact DataW.trod_lt m _ _ _ hm
  obtain ⟨px1, py1, pd1, rfl, wx1, wy1, wd1⟩ := PA.open_place (hval 1 42 v1 rfl rfl) h1
  clear hA0 hval0 hsz0
  refine (PA.lawnone_x W qa0 qn0 px1 py1 pd1).mono fun e W' ⟨he, bel⟩ => ?_
  subst he
  exact ⟨_, rfl, _, _, _, [], _, [], hW', trodAll_mk1 (shut_bool Try.underlying4 _), (trodAll_cons_mk (Below.trod PA.laidOut (by kernel_rfl) (of_decide_eq_true (by kernel_rfl)) k0 bel lt0) (trodAll_cons_mk (Below.trod PA.laidOut (by kernel_rfl) (of_decide_eq_true (by kernel_rfl)) k1 bel lt1) trodAll_mk0)), rfl, bel.frame _, fun h => by cases h⟩
theorem over : Rows.queryNoneRow.holds Try.pinned (OpenSpec.ofChange Rows.queryNoneSpec) :=
  OpenClaim.holds_of_wide 10 Try.f10 rfl rfl rfl rfl rfl rfl rfl ⟨rfl, rfl, rfl, rfl, rfl⟩ rfl rfl rfl rfl rfl (by kernel_rfl) Try.func10 (by kernel_rfl)
    (of_decide_eq_true (by kernel_rfl)) (by unfold Func.isWrapper; first | (rw [if_pos (by decide +kernel)]; kernel_rfl) | (rw [if_neg (by decide +kernel)]; exact ⟨rfl, rfl⟩))
    (fun os started H enc _ => lifted os started H enc)
theorem proved : Rows.QueryNoneSaid := over
#print axioms proved
end Go.Proofs.Ythcgiacjmfmamaa.QueryNone
namespace Go.Proofs.Ythcgiacjmfmamaa
theorem queryNone_holds : Rows.QueryNoneSaid := QueryNone.proved
end Go.Proofs.Ythcgiacjmfmamaa
