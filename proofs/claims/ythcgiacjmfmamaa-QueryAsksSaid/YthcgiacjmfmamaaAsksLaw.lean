/-
  The law QueryAsks returns true for every input, and its arguments read behind the call as before: no condition.
-/
import Derived.Test.YthcgiacjmfmamaaME
import Derived.Test.YthcgiacjmfmamaaMW
namespace Go.Proofs.Ythcgiacjmfmamaa.PA
set_option linter.unusedVariables false
set_option linter.unusedSimpArgs false
open Go.RowKit Go.Shelf Go.Proofs.YthcgiacjmfmamaaW.PrintWords
theorem buns_of {w w' : World} {base : Nat} {v : Value} {l : List TB} (hb : Below w.heap.size w w') (hA : ARow w' base v l) (hl : l.length < 1000000) : BunsIs w l (.returned v) w' := by
  obtain ⟨A, c, rfl, hc, hC⟩ := hA.reads hl
  exact ⟨A, c, rfl, hb, hc, hC⟩
theorem law_all (w : World) {b : Nat} {A : Option Addr} {c : Nat} {L M : List TB} (h : Mst w b A c L M) (qa qn : Int) (m : Nat) (hm : m < 100000) {l : List TB} (hl : l = (ofI qa qn M).take m) :
    Calls Try.prog 33 #[.pointer (some ⟨b, 0, none⟩), .agg #[.int .i64 qa, .int .i64 qn], .int .i64 m] w (BunsIs w l) := by
  obtain ⟨base, hh⟩ := h.holds
  have ho := ofI_small h.lst qa qn
  refine (callsIn_wide.1 (all_x w hh h.len qa qn m hm (ofI qa qn M) (fun L' hT => ids_one h.perm h.lst.dist qa qn hT) (by omega))).mono ?_
  rintro e w' ⟨v, rfl, hb, hA⟩
  rw [← hl] at hA
  exact buns_of hb hA (by rw [hl, List.length_take]; omega)
theorem len_eq_cast (n : Nat) : ((n : Int) == (n : Int)) = true := by simp
set_option maxRecDepth 100000 in
set_option maxHeartbeats 4000000 in
theorem lawasks_x (w : World) (A0 : Option Addr) (c0 : Nat) (l0 : List TB) (hC0 : Kd.C k51 w A0 l0.length l0) (qa qn : Int) (ha : wfI qa) :
    Calls Try.prog 9 #[.slice A0 l0.length c0, .agg #[.int .i64 qa, .int .i64 qn]] w fun e w' => e = .returned (.bool true) ∧ Below w.heap.size w w' := by
  obtain ⟨w1, hw1⟩ : ∃ w1, w1 = w.alloc (.cells #[.int .i64 qa, .int .i64 qn] 23) := ⟨_, rfl⟩
  have hb1 : Below w.heap.size w w1 := by rw [hw1]; exact below_alloc (Below.refl _ _) _
  have hC1 := Kd.C_below hC0 hb1
  have bq : w1.heap[w.heap.size]? = some (.cells #[.int .i64 qa, .int .i64 qn] 23 (0, 0)) := by rw [hw1]; exact heap_alloc_new w _
  have hma := lawmade_x w1 A0 c0 l0 hC1
  have HA := Aside0.mk ha
  have HB1 := Aside0.mk hb1
  have BQ := Aside0.mk bq
  clear hC0 hC1 bq ha hb1
  go_enter Try.func9, Try.ntmps9
  go_wp2_with fail
  rw [← hw1]
  clear hw1
  refine hma.mono ?_
  rintro e w2 ⟨b, A, c, L, rfl, hb2, hM⟩
  obtain ⟨M, hMe⟩ : ∃ M, M = madeL (l0.take 60) := ⟨_, rfl⟩
  rw [← hMe] at hM ⊢
  have HM := Aside0.mk hM
  have bq2 := (hb2.block _ (blk_lt BQ.out)).trans BQ.out
  have q0 : w2.cell? ⟨w.heap.size, 0, none⟩ = some (.int .i64 qa) := (blk_cell bq2 0).trans rfl
  have q1 : w2.cell? ⟨w.heap.size, 1, none⟩ = some (.int .i64 qn) := (blk_cell bq2 1).trans rfl
  have HB2 := Aside0.mk (HB1.out.trans (hb2.mono HB1.out.size))
  clear hma hMe hM hb2 bq2
  obtain ⟨res, hres⟩ : ∃ res, res = ofI qa qn M := ⟨_, rfl⟩
  obtain ⟨ns, hns⟩ : ∃ ns, ns = res.map (·.f0) := ⟨_, rfl⟩
  have hrl : res.length ≤ 60 := by rw [hres]; exact ofI_small HM.out.lst qa qn
  have hnl : ns.length ≤ 60 := by rw [hns, List.length_map]; exact hrl
  have HNW : Aside0 (ns = (ofI qa qn M).map (·.f0)) := Aside0.mk (by rw [hns, hres])
  have HLEN : Aside0 (res.length = (ofI qa qn M).length) := Aside0.mk (by rw [hres])
  have HTK : Aside0 (res = (ofI qa qn M).take 1000) := Aside0.mk (by rw [← hres, List.take_of_length_le (by omega)])
  have HRES := Aside0.mk hres
  have HNS := Aside0.mk hns
  clear hres hns
  go_wp2_with fail
  refine (law_refof w2 HM.out HA.out qn HRES.out).mono ?_
  rintro e w3 ⟨Ar, cr, rfl, hb3, hcr, hCr⟩
  have HB3 := Aside0.mk (HB2.out.trans (hb3.mono HB2.out.size))
  have HM3 := Aside0.mk (HM.out.below hb3)
  have r0 := cell_b hb3 q0
  have r1 := cell_b hb3 q1
  have HCr3 := Aside0.mk hCr
  have Hcr := Aside0.mk hcr
  clear q0 q1 hb3 hCr hcr
  go_wp2_with fail
  refine (law_ids w3 HM3.out qa qn HNW.out).mono ?_
  rintro e w4 ⟨Aa, ca, rfl, hb4, hca, hCa⟩
  have HB4 := Aside0.mk (HB3.out.trans (hb4.mono HB3.out.size))
  have HM4 := Aside0.mk (HM3.out.below hb4)
  have q0 := cell_b hb4 r0
  have q1 := cell_b hb4 r1
  have HCr4 := Aside0.mk (Kd.C_below HCr3.out hb4)
  have HCa4 := Aside0.mk hCa
  have Hca := Aside0.mk hca
  clear r0 r1 hb4 hCa hca
  go_wp2_with fail
  refine (law_names w4 HCr4.out Hcr.out (by omega) HNS.out).mono ?_
  rintro e w5 ⟨Ac, cc, rfl, hb5, hcc, hCc⟩
  have HB5 := Aside0.mk (HB4.out.trans (hb5.mono HB4.out.size))
  have HM5 := Aside0.mk (HM4.out.below hb5)
  have r0 := cell_b hb5 q0
  have r1 := cell_b hb5 q1
  have HCr5 := Aside0.mk (Kd.C_below HCr4.out hb5)
  have HCa5 := Aside0.mk (Kd.C_below HCa4.out hb5)
  have HCc5 := Aside0.mk hCc
  have Hcc := Aside0.mk hcc
  clear q0 q1 hb5 hCc hcc
  go_wp2_with fail
  refine (law_same w5 HCa5.out Hca.out HCc5.out Hcc.out (by omega)).mono ?_
  rintro e w6 ⟨rfl, hb6⟩
  have HB6 := Aside0.mk (HB5.out.trans (hb6.mono HB5.out.size))
  have HM6 := Aside0.mk (HM5.out.below hb6)
  have q0 := cell_b hb6 r0
  have q1 := cell_b hb6 r1
  have HCr6 := Aside0.mk (Kd.C_below HCr5.out hb6)
  clear r0 r1 hb6
  go_wp2_with fail
  refine (law_count w6 HM6.out qa qn HLEN.out).mono ?_
  rintro e w7 ⟨rfl, hb7⟩
  have HB7 := Aside0.mk (HB6.out.trans (hb7.mono HB6.out.size))
  have HM7 := Aside0.mk (HM6.out.below hb7)
  have r0 := cell_b hb7 q0
  have r1 := cell_b hb7 q1
  have HCr7 := Aside0.mk (Kd.C_below HCr6.out hb7)
  clear q0 q1 hb7
  go_wp2_with fail
  refine (law_all w7 HM7.out qa qn 1000 (by decide) HTK.out).mono ?_
  rintro e w8 ⟨Ad, cd, rfl, hb8, hcd, hCd⟩
  have HB8 := Aside0.mk (HB7.out.trans (hb8.mono HB7.out.size))
  have HCr8 := Aside0.mk (Kd.C_below HCr7.out hb8)
  have HCd8 := Aside0.mk hCd
  have Hcd := Aside0.mk hcd
  clear r0 r1 hb8 hCd hcd
  go_wp2_with fail
  refine (law_sameb w8 HCd8.out Hcd.out HCr8.out Hcr.out (by omega)).mono ?_
  rintro e w9 ⟨rfl, hb9⟩
  have HB9 := Aside0.mk (HB8.out.trans (hb9.mono HB8.out.size))
  clear hb9
  go_wp2_with fail
  refine (awake_x _).mono ?_
  rintro e w10 ⟨rfl, hb10⟩
  have HB10 := Aside0.mk (HB9.out.trans (hb10.mono HB9.out.size))
  clear hb10
  go_wp2
  go_ret
  exact ⟨rfl, HB10.out⟩
end Go.Proofs.Ythcgiacjmfmamaa.PA

namespace Go.Proofs.Ythcgiacjmfmamaa.QueryAsks
open Go.ChangeShapes Go.WideShapes Go.ChangeAt Go.RowKit
open Go.ChangeMaps (open_string shut_string)
set_option linter.unusedVariables false
set_option maxRecDepth 100000 in
theorem lifted (os : Os) (started : os.Started) (H : Type) (enc : TypeId × Value → H) :
    ReturnsInHanded {} Try.checked os 9 .any (Rows.queryAsksSpec.pre6 enc Try.prog Try.f9 Rows.queryAsksRow.domain false) (Rows.queryAsksSpec.post enc Try.prog Try.f9 false true false false) := by
  refine returnsInHanded_of_change_sized (C := Try.checked) PA.own_kn started (by kernel_rfl) Try.func9
    (ChangeSpec.witness6 (enc := enc) (C := Try.checked) false ⟨#[], #[.slice none 0 0, .agg #[.int .i64 0, .int .i64 0]], []⟩ 8 (by kernel_rfl) (by kernel_rfl) (by kernel_rfl) (by kernel_rfl)) ?_
  intro W base args ds gs before hval0 hW hcnd hsz0 _
  have hval : ∀ (j : Nat) t v, Try.f9.params[j]? = some t → args[j]? = some v → Value.okWide Try.prog W .any base t v := hval0
  have hW' := hW
  obtain ⟨p, q, hA0, hV, rfl, hfz, hnd⟩ := hW
  have hA : DataW.TrodAll enc Try.prog W 0 (fun _ => true) true Try.f9.params.toList args.toList ds p := hA0
  rw [Try.params9] at hA hval
  obtain ⟨v0, vs0, d0, ds0, p0, q0, hargs, rfl, rfl, h0, r0⟩ := trodAll_cons hA
  obtain ⟨v1, vs1, d1, ds1, p1, q1, rfl, rfl, rfl, h1, r1⟩ := trodAll_cons r0
  obtain ⟨rfl, rfl, rfl⟩ := trodAll_nil r1
  obtain rfl : args = #[v0, v1] := by cases args; simp_all
  obtain ⟨rfl, rfl⟩ := trodVars_none hV
  have k0 := h0
  have lt0 : ∀ x ∈ p0, x.block < W.heap.size := by obtain ⟨m, hm⟩ := k0; exact DataW.trod_lt m _ _ _ hm
  obtain ⟨A0, c0, l0, rfl, hC0⟩ := PA.open_bundles (hval 0 29 v0 rfl rfl) h0
  have k1 := h1
  have lt1 : ∀ x ∈ p1, x.block < W.heap.size := by obtain ⟨m, hm⟩ := k1; exact DataW.trod_lt m _ _ _ hm
  obtain ⟨qa1, qn1, rfl, ha1, hn1⟩ := PA.open_query (hval 1 23 v1 rfl rfl) h1
  clear hA0 hval0 hsz0
  refine (PA.lawasks_x W A0 c0 l0 hC0 qa1 qn1 ha1).mono fun e W' ⟨he, bel⟩ => ?_
  subst he
  exact ⟨_, rfl, _, _, _, [], _, [], hW', trodAll_mk1 (shut_bool Try.underlying4 _), (trodAll_cons_mk (Below.trod PA.laidOut (by kernel_rfl) (of_decide_eq_true (by kernel_rfl)) k0 bel lt0) (trodAll_cons_mk (Below.trod PA.laidOut (by kernel_rfl) (of_decide_eq_true (by kernel_rfl)) k1 bel lt1) trodAll_mk0)), rfl, bel.frame _, fun h => by cases h⟩
theorem over : Rows.queryAsksRow.holds Try.pinned (OpenSpec.ofChange Rows.queryAsksSpec) :=
  OpenClaim.holds_of_wide 9 Try.f9 rfl rfl rfl rfl rfl rfl rfl ⟨rfl, rfl, rfl, rfl, rfl⟩ rfl rfl rfl rfl rfl (by kernel_rfl) Try.func9 (by kernel_rfl)
    (of_decide_eq_true (by kernel_rfl)) (by unfold Func.isWrapper; first | (rw [if_pos (by decide +kernel)]; kernel_rfl) | (rw [if_neg (by decide +kernel)]; exact ⟨rfl, rfl⟩))
    (fun os started H enc _ => lifted os started H enc)
theorem proved : Rows.QueryAsksSaid := over
#print axioms proved
end Go.Proofs.Ythcgiacjmfmamaa.QueryAsks
namespace Go.Proofs.Ythcgiacjmfmamaa
theorem queryAsks_holds : Rows.QueryAsksSaid := QueryAsks.proved
end Go.Proofs.Ythcgiacjmfmamaa
