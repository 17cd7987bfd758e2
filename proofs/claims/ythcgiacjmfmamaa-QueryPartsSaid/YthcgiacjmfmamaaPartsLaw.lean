/-
  The law QueryParts returns true for every input, and its arguments read behind the call as before: no condition.
-/
import Derived.Test.YthcgiacjmfmamaaMN
import Derived.Test.YthcgiacjmfmamaaMW
namespace Go.Proofs.Ythcgiacjmfmamaa.PA
set_option linter.unusedVariables false
set_option linter.unusedSimpArgs false
open Go.RowKit Go.Shelf Go.Proofs.YthcgiacjmfmamaaW.PrintWords
theorem shl_bit (m : Int) (h : 0 ≤ m) : oneBit (Go.RowKit.wrap64 (2 ^ (m % 5).toNat)) := by
  obtain ⟨r, hr, hr5⟩ : ∃ r : Nat, (m % 5).toNat = r ∧ r < 5 := ⟨_, rfl, by omega⟩
  rw [hr]
  match r, hr5 with
  | 0, _ => exact .inl (by rw [IntWalk.wrap64_in _ (by omega)]; rfl)
  | 1, _ => exact .inr (.inl (by rw [IntWalk.wrap64_in _ (by omega)]; rfl))
  | 2, _ => exact .inr (.inr (.inl (by rw [IntWalk.wrap64_in _ (by omega)]; rfl)))
  | 3, _ => exact .inr (.inr (.inr (.inl (by rw [IntWalk.wrap64_in _ (by omega)]; rfl))))
  | 4, _ => exact .inr (.inr (.inr (.inr (by rw [IntWalk.wrap64_in _ (by omega)]; rfl))))
set_option maxRecDepth 100000 in
set_option maxHeartbeats 4000000 in
theorem lawparts_x (w : World) (A0 : Option Addr) (c0 : Nat) (l0 : List TB) (hC0 : Kd.C k51 w A0 l0.length l0) (qa qn m : Int) (ha : wfI qa) (hn : wfI qn) (hm : (Lit.int .u64 m).wf = true) :
    Calls Try.prog 8 #[.slice A0 l0.length c0, .agg #[.int .i64 qa, .int .i64 qn], .int .u64 m] w fun e w' => e = .returned (.bool true) ∧ Below w.heap.size w w' := by
  have hm0 : 0 ≤ m ∧ m ≤ 18446744073709551615 := by
    simp [Lit.wf, IntKind.min, IntKind.max, IntKind.signed, IntKind.bits] at hm
    omega
  obtain ⟨m0, m1⟩ := hm0
  obtain ⟨w1, hw1⟩ : ∃ w1, w1 = w.alloc (.cells #[.int .i64 qa, .int .i64 qn] 23) := ⟨_, rfl⟩
  have hb1 : Below w.heap.size w w1 := by rw [hw1]; exact below_alloc (Below.refl _ _) _
  have hC1 := Kd.C_below hC0 hb1
  have bq : w1.heap[w.heap.size]? = some (.cells #[.int .i64 qa, .int .i64 qn] 23 (0, 0)) := by rw [hw1]; exact heap_alloc_new w _
  have hma := lawmade_x w1 A0 c0 l0 hC1
  have HA := Aside0.mk ha
  have HN := Aside0.mk hn
  have HB1 := Aside0.mk hb1
  have BQ := Aside0.mk bq
  clear hC0 hC1 bq ha hn hb1 hm
  go_enter Try.func8, Try.ntmps8
  go_wp2_with fail
  rw [← hw1]
  clear hw1
  refine hma.mono ?_
  rintro e w2 ⟨b, A, c, L, rfl, hb2, hM⟩
  obtain ⟨M, hMe⟩ : ∃ M, M = madeL (l0.take 60) := ⟨_, rfl⟩
  rw [← hMe] at hM ⊢
  have HM := Aside0.mk hM
  have bq2 := (hb2.block _ (blk_lt BQ.out)).trans BQ.out
  have BQ2 := Aside0.mk bq2
  have q0 : w2.cell? ⟨w.heap.size, 0, none⟩ = some (.int .i64 qa) := (blk_cell bq2 0).trans rfl
  have q1 : w2.cell? ⟨w.heap.size, 1, none⟩ = some (.int .i64 qn) := (blk_cell bq2 1).trans rfl
  have HB2 := Aside0.mk (HB1.out.trans (hb2.mono HB1.out.size))
  clear hma hMe hM hb2 bq2
  go_wp2_with fail
  obtain ⟨cb, hcb⟩ : ∃ cb, cb = Go.RowKit.wrap64 (2 ^ (m % 5).toNat) := ⟨_, rfl⟩
  rw [← hcb]
  have HCB : Aside0 (oneBit cb) := Aside0.mk (by rw [hcb]; exact shl_bit m m0)
  obtain ⟨n1, hn1⟩ : ∃ n, n = (ofI (bits .or .i64 qa cb) qn M).length := ⟨_, rfl⟩
  obtain ⟨n2, hn2⟩ : ∃ n, n = (ofI qa (bits .or .i64 qn cb) M).length := ⟨_, rfl⟩
  obtain ⟨n3, hn3⟩ : ∃ n, n = (ofI qa qn M).length := ⟨_, rfl⟩
  obtain ⟨n4, hn4⟩ : ∃ n, n = M.length := ⟨_, rfl⟩
  have hsum : n1 + n2 = n3 := by rw [hn1, hn2, hn3]; exact count_parts HA.out HN.out HCB.out M
  have hn30 : n3 ≤ 60 := by rw [hn3]; exact ofI_small HM.out.lst _ _
  have hs1 : ((n1 : Int) + (n2 : Int) == (n3 : Int)) = true := by simp; omega
  have hs2 : (decide ((n1 : Int) + (n2 : Int) = (n3 : Int))) = true := by simp; omega
  have hs3 : (n1 : Int) ≤ 60 := by omega
  have hs4 : (n2 : Int) ≤ 60 := by omega
  have hn5 : Aside0 (n4 = (ofI 0 0 M).length) := Aside0.mk (by rw [hn4, count_all])
  have HN1 := Aside0.mk hn1
  have HN2 := Aside0.mk hn2
  have HN3 := Aside0.mk hn3
  have HN4 := Aside0.mk hn4
  have HCBE := Aside0.mk hcb
  clear hcb hn1 hn2 hn3 hn4 hsum
  refine (law_count w2 HM.out (bits .or .i64 qa cb) qn HN1.out).mono ?_
  rintro e w3 ⟨rfl, hb3⟩
  have HB3 := Aside0.mk (HB2.out.trans (hb3.mono HB2.out.size))
  have HM3 := Aside0.mk (HM.out.below hb3)
  have r0 := cell_b hb3 q0
  have r1 := cell_b hb3 q1
  clear q0 q1 hb3
  go_wp2_with fail
  refine (law_count w3 HM3.out qa (bits .or .i64 qn cb) HN2.out).mono ?_
  rintro e w4 ⟨rfl, hb4⟩
  have HB4 := Aside0.mk (HB3.out.trans (hb4.mono HB3.out.size))
  have HM4 := Aside0.mk (HM3.out.below hb4)
  have q0 := cell_b hb4 r0
  have q1 := cell_b hb4 r1
  clear r0 r1 hb4
  go_wp2_with fail
  refine (law_count w4 HM4.out qa qn HN3.out).mono ?_
  rintro e w5 ⟨rfl, hb5⟩
  have HB5 := Aside0.mk (HB4.out.trans (hb5.mono HB4.out.size))
  have HM5 := Aside0.mk (HM4.out.below hb5)
  clear q0 q1 hb5
  go_wp2_with fail
  refine (law_count w5 HM5.out 0 0 hn5.out).mono ?_
  rintro e w6 ⟨rfl, hb6⟩
  have HB6 := Aside0.mk (HB5.out.trans (hb6.mono HB5.out.size))
  have HM6 := Aside0.mk (HM5.out.below hb6)
  clear hb6
  go_wp2_with fail
  refine (law_len w6 HM6.out HN4.out).mono ?_
  rintro e w7 ⟨rfl, hb7⟩
  have HB7 := Aside0.mk (HB6.out.trans (hb7.mono HB6.out.size))
  clear hb7
  go_wp2_with fail
  refine (awake_x _).mono ?_
  rintro e w8 ⟨rfl, hb8⟩
  have HB8 := Aside0.mk (HB7.out.trans (hb8.mono HB7.out.size))
  clear hb8
  go_wp2
  go_ret
  exact ⟨rfl, HB8.out⟩
end Go.Proofs.Ythcgiacjmfmamaa.PA

namespace Go.Proofs.Ythcgiacjmfmamaa.QueryParts
open Go.ChangeShapes Go.WideShapes Go.ChangeAt Go.RowKit
open Go.ChangeMaps (open_string shut_string)
set_option linter.unusedVariables false
set_option maxRecDepth 100000 in
theorem lifted (os : Os) (started : os.Started) (H : Type) (enc : TypeId × Value → H) :
    ReturnsInHanded {} Try.checked os 8 .any (Rows.queryPartsSpec.pre6 enc Try.prog Try.f8 Rows.queryPartsRow.domain false) (Rows.queryPartsSpec.post enc Try.prog Try.f8 false true false false) := by
  refine returnsInHanded_of_change_sized (C := Try.checked) PA.own_kn started (by kernel_rfl) Try.func8
    (ChangeSpec.witness6 (enc := enc) (C := Try.checked) false ⟨#[], #[.slice none 0 0, .agg #[.int .i64 0, .int .i64 0], .int .u64 0], []⟩ 8 (by kernel_rfl) (by kernel_rfl) (by kernel_rfl) (by kernel_rfl)) ?_
  intro W base args ds gs before hval0 hW hcnd hsz0 _
  have hval : ∀ (j : Nat) t v, Try.f8.params[j]? = some t → args[j]? = some v → Value.okWide Try.prog W .any base t v := hval0
  have hW' := hW
  obtain ⟨p, q, hA0, hV, rfl, hfz, hnd⟩ := hW
  have hA : DataW.TrodAll enc Try.prog W 0 (fun _ => true) true Try.f8.params.toList args.toList ds p := hA0
  rw [Try.params8] at hA hval
  obtain ⟨v0, vs0, d0, ds0, p0, q0, hargs, rfl, rfl, h0, r0⟩ := trodAll_cons hA
  obtain ⟨v1, vs1, d1, ds1, p1, q1, rfl, rfl, rfl, h1, r1⟩ := trodAll_cons r0
  obtain ⟨v2, vs2, d2, ds2, p2, q2, rfl, rfl, rfl, h2, r2⟩ := trodAll_cons r1
  obtain ⟨rfl, rfl, rfl⟩ := trodAll_nil r2
  obtain rfl : args = #[v0, v1, v2] := by cases args; simp_all
  obtain ⟨rfl, rfl⟩ := trodVars_none hV
  have k0 := h0
  have lt0 : ∀ x ∈ p0, x.block < W.heap.size := by obtain ⟨m, hm⟩ := k0; exact DataW.trod_lt m _ _ _ hm
  obtain ⟨A0, c0, l0, rfl, hC0⟩ := PA.open_bundles (hval 0 29 v0 rfl rfl) h0
  have k1 := h1
  have lt1 : ∀ x ∈ p1, x.block < W.heap.size := by obtain ⟨m, hm⟩ := k1; exact DataW.trod_lt m _ _ _ hm
  obtain ⟨qa1, qn1, rfl, ha1, hn1⟩ := PA.open_query (hval 1 23 v1 rfl rfl) h1
  have k2 := h2
  have lt2 : ∀ x ∈ p2, x.block < W.heap.size := by obtain ⟨m, hm⟩ := k2; exact DataW.trod_lt m _ _ _ hm
  obtain ⟨m2, rfl, _, _, hm2⟩ := open_int Try.underlying55 (hval 2 55 v2 rfl rfl) h2
  clear hA0 hval0 hsz0
  refine (PA.lawparts_x W A0 c0 l0 hC0 qa1 qn1 m2 ha1 hn1 hm2).mono fun e W' ⟨he, bel⟩ => ?_
  subst he
  exact ⟨_, rfl, _, _, _, [], _, [], hW', trodAll_mk1 (shut_bool Try.underlying4 _), (trodAll_cons_mk (Below.trod PA.laidOut (by kernel_rfl) (of_decide_eq_true (by kernel_rfl)) k0 bel lt0) (trodAll_cons_mk (Below.trod PA.laidOut (by kernel_rfl) (of_decide_eq_true (by kernel_rfl)) k1 bel lt1) (trodAll_cons_mk (Below.trod PA.laidOut (by kernel_rfl) (of_decide_eq_true (by kernel_rfl)) k2 bel lt2) trodAll_mk0))), rfl, bel.frame _, fun h => by cases h⟩
theorem over : Rows.queryPartsRow.holds Try.pinned (OpenSpec.ofChange Rows.queryPartsSpec) :=
  OpenClaim.holds_of_wide 8 Try.f8 rfl rfl rfl rfl rfl rfl rfl ⟨rfl, rfl, rfl, rfl, rfl⟩ rfl rfl rfl rfl rfl (by kernel_rfl) Try.func8 (by kernel_rfl)
    (of_decide_eq_true (by kernel_rfl)) (by unfold Func.isWrapper; first | (rw [if_pos (by decide +kernel)]; kernel_rfl) | (rw [if_neg (by decide +kernel)]; exact ⟨rfl, rfl⟩))
    (fun os started H enc _ => lifted os started H enc)
theorem proved : Rows.QueryPartsSaid := over
#print axioms proved
end Go.Proofs.Ythcgiacjmfmamaa.QueryParts
namespace Go.Proofs.Ythcgiacjmfmamaa
theorem queryParts_holds : Rows.QueryPartsSaid := QueryParts.proved
end Go.Proofs.Ythcgiacjmfmamaa
