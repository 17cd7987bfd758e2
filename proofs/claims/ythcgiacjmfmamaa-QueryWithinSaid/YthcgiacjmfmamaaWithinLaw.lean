/-
  The law QueryWithin returns true for every input, and its arguments read behind the call as before: no condition.
-/
import Derived.Test.YthcgiacjmfmamaaML
import Derived.Test.YthcgiacjmfmamaaMW
namespace Go.Proofs.Ythcgiacjmfmamaa.PA
set_option linter.unusedVariables false
set_option linter.unusedSimpArgs false
open Go.RowKit Go.Shelf Go.Proofs.YthcgiacjmfmamaaW.PrintWords
set_option maxRecDepth 100000 in
set_option maxHeartbeats 4000000 in
theorem lawwithin_x (w : World) (A0 : Option Addr) (c0 : Nat) (l0 : List TB) (hC0 : Kd.C k51 w A0 l0.length l0) (qa qn x0 y0 x1 y1 : Int) (ha : wfI qa) :
    Calls Try.prog 4 #[.slice A0 l0.length c0, .agg #[.int .i64 qa, .int .i64 qn], .agg #[.int .i64 x0, .int .i64 y0, .int .i64 x1, .int .i64 y1]] w fun e w' => e = .returned (.bool true) ∧ Below w.heap.size w w' := by
  obtain ⟨w1, hw1⟩ : ∃ w1, w1 = (w.alloc (.cells #[.int .i64 qa, .int .i64 qn] 23)).alloc (.cells #[.int .i64 x0, .int .i64 y0, .int .i64 x1, .int .i64 y1] 31) := ⟨_, rfl⟩
  have hb1 : Below w.heap.size w w1 := by rw [hw1]; exact below_alloc (below_alloc (Below.refl _ _) _) _
  have hC1 := Kd.C_below hC0 hb1
  have bq : w1.heap[w.heap.size]? = some (.cells #[.int .i64 qa, .int .i64 qn] 23 (0, 0)) := by rw [hw1, heap_old _ _ _ (by simp)]; exact heap_alloc_new w _
  have br : w1.heap[w.heap.size + 1]? = some (.cells #[.int .i64 x0, .int .i64 y0, .int .i64 x1, .int .i64 y1] 31 (0, 0)) := by
    rw [hw1]
    have := heap_alloc_new (w.alloc (.cells #[.int .i64 qa, .int .i64 qn] 23)) (.cells #[.int .i64 x0, .int .i64 y0, .int .i64 x1, .int .i64 y1] 31)
    rw [World.size_alloc] at this; exact this
  have e0 : w1.cell? ⟨w.heap.size, 0, none⟩ = some (.int .i64 qa) := (blk_cell bq 0).trans rfl
  have e1 : w1.cell? ⟨w.heap.size, 1, none⟩ = some (.int .i64 qn) := (blk_cell bq 1).trans rfl
  have e2 : w1.cell? ⟨w.heap.size + 1, 0, none⟩ = some (.int .i64 x0) := (blk_cell br 0).trans rfl
  have e3 : w1.cell? ⟨w.heap.size + 1, 1, none⟩ = some (.int .i64 y0) := (blk_cell br 1).trans rfl
  have e4 : w1.cell? ⟨w.heap.size + 1, 2, none⟩ = some (.int .i64 x1) := (blk_cell br 2).trans rfl
  have e5 : w1.cell? ⟨w.heap.size + 1, 3, none⟩ = some (.int .i64 y1) := (blk_cell br 3).trans rfl
  have hma := lawmade_x w1 A0 c0 l0 hC1
  have HA := Aside0.mk ha
  have HB1 := Aside0.mk hb1
  clear hC0 hC1 bq br ha hb1
  go_enter Try.func4, Try.ntmps4
  go_wp2_with fail
  rw [← hw1]
  clear hw1
  refine hma.mono ?_
  rintro e w2 ⟨b, A, c, L, rfl, hb2, hM⟩
  obtain ⟨M, hMe⟩ : ∃ M, M = madeL (l0.take 60) := ⟨_, rfl⟩
  rw [← hMe] at hM ⊢
  have HM := Aside0.mk hM
  have E0 := Aside0.mk (cell_b hb2 e0)
  have E1 := Aside0.mk (cell_b hb2 e1)
  have E2 := Aside0.mk (cell_b hb2 e2)
  have E3 := Aside0.mk (cell_b hb2 e3)
  have E4 := Aside0.mk (cell_b hb2 e4)
  have E5 := Aside0.mk (cell_b hb2 e5)
  have HB2 := Aside0.mk (HB1.out.trans (hb2.mono HB1.out.size))
  clear hma hMe hM e0 e1 e2 e3 e4 e5 hb2
  go_wp2
  obtain ⟨res, hres⟩ : ∃ res, res = (ofI qa qn M).filter fun x => hasI x0 y0 x1 y1 x.f2 x.f3 := ⟨_, rfl⟩
  obtain ⟨ns, hns⟩ : ∃ ns, ns = res.map (·.f0) := ⟨_, rfl⟩
  have hrl : res.length ≤ 60 := by rw [hres]; exact Nat.le_trans (List.length_filter_le _ _) (ofI_small HM.out.lst qa qn)
  have hnl : ns.length ≤ 60 := by rw [hns, List.length_map]; exact hrl
  have HRES := Aside0.mk hres
  have HNS := Aside0.mk hns
  have HNW : Aside0 (ns = ((ofI qa qn M).filter fun x => hasI x0 y0 x1 y1 x.f2 x.f3).map (·.f0)) := Aside0.mk (by rw [hns, hres])
  have HRL := Aside0.mk hrl
  have HNL := Aside0.mk hnl
  clear hres hns hrl hnl
  go_region_held3 (fun W' => (W'.cell? ⟨w.heap.size, 0, none⟩ = some (.int .i64 qa) ∧ W'.cell? ⟨w.heap.size, 1, none⟩ = some (.int .i64 qn) ∧ W'.cell? ⟨w.heap.size + 1, 0, none⟩ = some (.int .i64 x0) ∧ W'.cell? ⟨w.heap.size + 1, 1, none⟩ = some (.int .i64 y0) ∧ W'.cell? ⟨w.heap.size + 1, 2, none⟩ = some (.int .i64 x1) ∧ W'.cell? ⟨w.heap.size + 1, 3, none⟩ = some (.int .i64 y1)) ∧ Below w2.heap.size w2 W')
    (first | exact zk6b E0.out E1.out E2.out E3.out E4.out E5.out (by assumption) (by assumption) | exact zk6a E0.out E1.out E2.out E3.out E4.out E5.out (by first | exact Below.refl _ _ | exact below_drew (Below.refl _ _)))
    (first | (go_at_call 21; (refine (law_within _ (mst_held (by assumption) HM.out) qa qn x0 y0 x1 y1 HNW.out).mono ?_); rintro e w' ⟨Aa, ca, rfl, hba, hca, hCa⟩; have HCa := Aside0.mk hCa; have Hca := Aside0.mk hca; clear hCa hca) | (go_at_call 23; (refine (law_refwithin _ (mst_held (by assumption) HM.out) HA.out qn x0 y0 x1 y1 HRES.out).mono ?_); rintro e w' ⟨Ab, cb, rfl, hbb, hcb, hCb⟩; have HCb := Aside0.mk hCb; have Hcb := Aside0.mk hcb; have HCa2 := Aside0.mk (Kd.C_below HCa.out hbb); clear hCb hcb) | (go_at_call 22; (refine (law_names _ HCb.out Hcb.out (by have := HRL.out; omega) HNS.out).mono ?_); rintro e w' ⟨Ac, cc, rfl, hbc, hcc, hCc⟩; have HCc := Aside0.mk hCc; have Hcc := Aside0.mk hcc; have HCa3 := Aside0.mk (Kd.C_below HCa2.out hbc); clear hCc hcc) | (go_at_call 20; (refine (law_same _ HCa3.out Hca.out HCc.out Hcc.out (by have := HNL.out; omega)).mono ?_); rintro e w' ⟨rfl, hbs⟩) | (go_at_call 18; (refine (awake_x _).mono ?_); rintro e w' ⟨rfl, hbw⟩))
  all_goals
    rename_i hS
    have hBe := Aside0.mk (HB2.out.trans (hS.2.mono HB2.out.size))
    clear hS
    go_wp2
    go_ret
    exact ⟨rfl, hBe.out⟩
end Go.Proofs.Ythcgiacjmfmamaa.PA

namespace Go.Proofs.Ythcgiacjmfmamaa.QueryWithin
open Go.ChangeShapes Go.WideShapes Go.ChangeAt Go.RowKit
open Go.ChangeMaps (open_string shut_string)
set_option linter.unusedVariables false
set_option maxRecDepth 100000 in
theorem lifted (os : Os) (started : os.Started) (H : Type) (enc : TypeId × Value → H) :
    ReturnsInHanded {} Try.checked os 4 .any (Rows.queryWithinSpec.pre6 enc Try.prog Try.f4 Rows.queryWithinRow.domain false) (Rows.queryWithinSpec.post enc Try.prog Try.f4 false true false false) := by
  refine returnsInHanded_of_change_sized (C := Try.checked) PA.own_kn started (by kernel_rfl) Try.func4
    (ChangeSpec.witness6 (enc := enc) (C := Try.checked) false ⟨#[], #[.slice none 0 0, .agg #[.int .i64 0, .int .i64 0], .agg #[.int .i64 0, .int .i64 0, .int .i64 0, .int .i64 0]], []⟩ 8 (by kernel_rfl) (by kernel_rfl) (by kernel_rfl) (by kernel_rfl)) ?_
  intro W base args ds gs before hval0 hW hcnd hsz0 _
  have hval : ∀ (j : Nat) t v, Try.f4.params[j]? = some t → args[j]? = some v → Value.okWide Try.prog W .any base t v := hval0
  have hW' := hW
  obtain ⟨p, q, hA0, hV, rfl, hfz, hnd⟩ := hW
  have hA : DataW.TrodAll enc Try.prog W 0 (fun _ => true) true Try.f4.params.toList args.toList ds p := hA0
  rw [Try.params4] at hA hval
  obtain ⟨v0, vs0, d0, ds0, p0, q0, hargs, rfl, rfl, h0, r0⟩ := trodAll_cons hA
  obtain ⟨v1, vs1, d1, ds1, p1, q1, rfl, rfl, rfl, h1, r1⟩ := trodAll_cons r0
  obtain ⟨v2, vs2, d2, ds2, p2, q2, rfl, rfl, rfl, h2, r2⟩ := trodAll_cons r1
  obtain ⟨rfl, rfl, rfl⟩ := trodAll_nil r2
  obtain rfl : args = #[v0, v1, v2] := by cases args; simp_all
  obtain ⟨rfl, rfl⟩ := trodVars_none hV
  have k0 := h0
  have lt0 : ∀ x ∈ p0, x.block < W.heap.size := by obtain ⟨m, hm⟩ := k0; exact DataW.trod_lt m _ _ _ hm
  obtain ⟨A0, c0, l0, rfl, hC0⟩ := PA.open_bundles (hval 0 29 v0 rfl rfl) h0
  have k1 := h1
  have lt1 : ∀ x ∈ p1, x.block < W.heap.size := by obtain ⟨m, hm⟩ := k1; exact DataW.trod_lt m _ _ _ hm
  obtain ⟨qa1, qn1, rfl, ha1, hn1⟩ := PA.open_query (hval 1 23 v1 rfl rfl) h1
  have k2 := h2
  have lt2 : ∀ x ∈ p2, x.block < W.heap.size := by obtain ⟨m, hm⟩ := k2; exact DataW.trod_lt m _ _ _ hm
  obtain ⟨xa2, ya2, xb2, yb2, rfl, wxa2, wya2, wxb2, wyb2⟩ := PA.open_rect (hval 2 31 v2 rfl rfl) h2
  clear hA0 hval0 hsz0
  refine (PA.lawwithin_x W A0 c0 l0 hC0 qa1 qn1 xa2 ya2 xb2 yb2 ha1).mono fun e W' ⟨he, bel⟩ => ?_
  subst he
  exact ⟨_, rfl, _, _, _, [], _, [], hW', trodAll_mk1 (shut_bool Try.underlying4 _), (trodAll_cons_mk (Below.trod PA.laidOut (by kernel_rfl) (of_decide_eq_true (by kernel_rfl)) k0 bel lt0) (trodAll_cons_mk (Below.trod PA.laidOut (by kernel_rfl) (of_decide_eq_true (by kernel_rfl)) k1 bel lt1) (trodAll_cons_mk (Below.trod PA.laidOut (by kernel_rfl) (of_decide_eq_true (by kernel_rfl)) k2 bel lt2) trodAll_mk0))), rfl, bel.frame _, fun h => by cases h⟩
theorem over : Rows.queryWithinRow.holds Try.pinned (OpenSpec.ofChange Rows.queryWithinSpec) :=
  OpenClaim.holds_of_wide 4 Try.f4 rfl rfl rfl rfl rfl rfl rfl ⟨rfl, rfl, rfl, rfl, rfl⟩ rfl rfl rfl rfl rfl (by kernel_rfl) Try.func4 (by kernel_rfl)
    (of_decide_eq_true (by kernel_rfl)) (by unfold Func.isWrapper; first | (rw [if_pos (by decide +kernel)]; kernel_rfl) | (rw [if_neg (by decide +kernel)]; exact ⟨rfl, rfl⟩))
    (fun os started H enc _ => lifted os started H enc)
theorem proved : Rows.QueryWithinSaid := over
#print axioms proved
end Go.Proofs.Ythcgiacjmfmamaa.QueryWithin
namespace Go.Proofs.Ythcgiacjmfmamaa
theorem queryWithin_holds : Rows.QueryWithinSaid := QueryWithin.proved
end Go.Proofs.Ythcgiacjmfmamaa
