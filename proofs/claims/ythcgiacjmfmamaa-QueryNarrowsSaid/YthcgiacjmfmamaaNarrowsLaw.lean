/-
  The law QueryNarrows returns true for every input, and its arguments read behind the call as before: no condition.
-/
import Derived.Test.YthcgiacjmfmamaaMN
import Derived.LoopTactic
import Derived.Test.YthcgiacjmfmamaaMW
namespace Go.Proofs.Ythcgiacjmfmamaa.PA
set_option linter.unusedVariables false
set_option linter.unusedSimpArgs false
open Go.RowKit Go.Shelf Go.Proofs.YthcgiacjmfmamaaW.PrintWords
set_option maxRecDepth 100000 in
set_option maxHeartbeats 4000000 in
theorem lawnarrows_x (w : World) (A0 : Option Addr) (c0 : Nat) (l0 : List TB) (hC0 : Kd.C k51 w A0 l0.length l0) (qa qn ma mn : Int) (ha : wfI qa) (hm : wfI ma) :
    Calls Try.prog 6 #[.slice A0 l0.length c0, .agg #[.int .i64 qa, .int .i64 qn], .agg #[.int .i64 ma, .int .i64 mn]] w fun e w' => e = .returned (.bool true) ∧ Below w.heap.size w w' := by
  obtain ⟨w1, hw1⟩ : ∃ w1, w1 = (w.alloc (.cells #[.int .i64 qa, .int .i64 qn] 23)).alloc (.cells #[.int .i64 ma, .int .i64 mn] 23) := ⟨_, rfl⟩
  have hb1 : Below w.heap.size w w1 := by rw [hw1]; exact below_alloc (below_alloc (Below.refl _ _) _) _
  have hC1 := Kd.C_below hC0 hb1
  have bq : w1.heap[w.heap.size]? = some (.cells #[.int .i64 qa, .int .i64 qn] 23 (0, 0)) := by rw [hw1, heap_old _ _ _ (by simp)]; exact heap_alloc_new w _
  have br : w1.heap[w.heap.size + 1]? = some (.cells #[.int .i64 ma, .int .i64 mn] 23 (0, 0)) := by
    rw [hw1]
    have := heap_alloc_new (w.alloc (.cells #[.int .i64 qa, .int .i64 qn] 23)) (.cells #[.int .i64 ma, .int .i64 mn] 23)
    rw [World.size_alloc] at this; exact this
  have hma := lawmade_x w1 A0 c0 l0 hC1
  have HA := Aside0.mk ha
  have HMA := Aside0.mk hm
  have HB1 := Aside0.mk hb1
  have BQ := Aside0.mk bq
  have BR := Aside0.mk br
  clear hC0 hC1 bq br ha hm hb1
  go_enter Try.func6, Try.ntmps6
  go_wp2_with fail
  rw [← hw1]
  clear hw1
  refine hma.mono ?_
  rintro e w2 ⟨b, A, c, L, rfl, hb2, hM⟩
  obtain ⟨M, hMe⟩ : ∃ M, M = madeL (l0.take 60) := ⟨_, rfl⟩
  rw [← hMe] at hM ⊢
  obtain ⟨ns, hns⟩ : ∃ ns, ns = (ofI qa qn M).map (·.f0) := ⟨_, rfl⟩
  obtain ⟨ms, hms⟩ : ∃ ms, ms = (ofI (bits .or .i64 qa ma) (bits .or .i64 qn mn) M).map (·.f0) := ⟨_, rfl⟩
  have hsub : ms.Sublist ns := by rw [hns, hms]; exact narrows hM.lst.dist HA.out HMA.out qn mn
  have hnl : ns.length ≤ 60 := by rw [hns, List.length_map]; exact ofI_small hM.lst _ _
  have HM := Aside0.mk hM
  have bq2 := (hb2.block _ (blk_lt BQ.out)).trans BQ.out
  have br2 := (hb2.block _ (blk_lt BR.out)).trans BR.out
  have q0 : w2.cell? ⟨w.heap.size, 0, none⟩ = some (.int .i64 qa) := (blk_cell bq2 0).trans rfl
  have q1 : w2.cell? ⟨w.heap.size, 1, none⟩ = some (.int .i64 qn) := (blk_cell bq2 1).trans rfl
  have HB2 := Aside0.mk (HB1.out.trans (hb2.mono HB1.out.size))
  have BQ2 := Aside0.mk bq2
  have BR2 := Aside0.mk br2
  have HNS := Aside0.mk hns
  have HMS := Aside0.mk hms
  have HSUB := Aside0.mk hsub
  clear hma hMe hM hb2 bq2 br2 hns hms hsub
  go_wp2_with fail
  refine (law_ids w2 HM.out qa qn HNS.out).mono ?_
  rintro e w3 ⟨An, cn, rfl, hb3, hcn, hCn⟩
  have HB3 := Aside0.mk (HB2.out.trans (hb3.mono HB2.out.size))
  have HM3 := Aside0.mk (HM.out.below hb3)
  clear q0 q1
  have bq3 := (hb3.block _ (blk_lt BQ2.out)).trans BQ2.out
  have br3 := (hb3.block _ (blk_lt BR2.out)).trans BR2.out
  have q0 : w3.cell? ⟨w.heap.size, 0, none⟩ = some (.int .i64 qa) := (blk_cell bq3 0).trans rfl
  have q1 : w3.cell? ⟨w.heap.size, 1, none⟩ = some (.int .i64 qn) := (blk_cell bq3 1).trans rfl
  have r0 : w3.cell? ⟨w.heap.size + 1, 0, none⟩ = some (.int .i64 ma) := (blk_cell br3 0).trans rfl
  have r1 : w3.cell? ⟨w.heap.size + 1, 1, none⟩ = some (.int .i64 mn) := (blk_cell br3 1).trans rfl
  have HCn := Aside0.mk hCn
  clear bq3 br3 hb3 hCn
  go_wp2_with fail
  refine (law_ids w3 HM3.out (bits .or .i64 qa ma) (bits .or .i64 qn mn) HMS.out).mono ?_
  rintro e w4 ⟨Am, cm, rfl, hb4, hcm, hCm⟩
  have HB4 := Aside0.mk (HB3.out.trans (hb4.mono HB3.out.size))
  have HCn4 := Aside0.mk (Kd.C_below HCn.out hb4)
  have HCm := Aside0.mk hCm
  clear q0 q1 r0 r1 hb4 hCm
  go_wp2
  go_loopw [11, 12] (fun v11 v12 wr => ∃ k i : Nat, v11 = .int .i64 k ∧ v12 = .int .i64 i ∧ i ≤ ms.length ∧ k ≤ ns.length ∧ Aside0 ((ms.drop i).Sublist (ns.drop k)) ∧ Aside0 (Below w4.heap.size w4 wr)) (fun _ v12 _ => ms.length - (intOf v12).toNat)
  case atStart => exact ⟨0, 0, rfl, rfl, Nat.zero_le _, Nat.zero_le _, HSUB, ⟨Below.refl _ _⟩⟩
  case round =>
    obtain ⟨k0, i, rfl, rfl, hi, hk0, HS0, HW0⟩ := hrel
    obtain ⟨wo, rfl⟩ : ∃ wo : World, wo = wr := ⟨_, rfl⟩
    by_cases hlt : i < ms.length
    · have g1 : (i : Int) < (ms.length : Int) := by omega
      have hml : ms.length ≤ ns.length := HSUB.out.length_le
      go_wp2
      go_loopw [11] (fun v11 wk => ∃ k : Nat, v11 = .int .i64 k ∧ k ≤ ns.length ∧ Aside0 ((ms.drop i).Sublist (ns.drop k)) ∧ Aside0 (Below w4.heap.size w4 wk)) (fun v11 _ => ns.length - (intOf v11).toNat)
      case atStart => exact ⟨k0, rfl, hk0, HS0, HW0⟩
      case round =>
        clear HS0 HW0 hk0
        obtain ⟨k, rfl, hk, HS0, HW0⟩ := hrel
        have hklt := sub_head HS0.out hlt
        have g2 : (k : Int) < (ns.length : Int) := by omega
        obtain ⟨ad, hA1, x0, x1, x2⟩ := id_cells HW0.out HCn4.out k hklt
        obtain ⟨bd, hA2, y0, y1, y2⟩ := id_cells HW0.out HCm.out i hlt
        subst hA1 hA2
        obtain ⟨p, hp⟩ : ∃ p, p = ns[k] := ⟨_, rfl⟩
        obtain ⟨q, hq⟩ : ∃ q, q = ms[i] := ⟨_, rfl⟩
        rw [← hp] at x0 x1 x2
        rw [← hq] at y0 y1 y2
        have HP := Aside0.mk hp
        have HQ := Aside0.mk hq
        clear hp hq
        have hnext : p ≠ q → Aside0 ((ms.drop i).Sublist (ns.drop (k + 1))) := fun hne => Aside0.mk (sub_next HS0.out hlt hklt (by rw [← HP.out, ← HQ.out]; exact hne))
        by_cases h0 : p.f0 = q.f0
        · rw [h0] at x0
          by_cases h1 : p.f1 = q.f1
          · rw [h1] at x1
            by_cases h2 : p.f2 = q.f2
            · rw [h2] at x2
              clear h0 h1 h2 hnext
              have hkn : ¬ k = ns.length := by omega
              have hkn2 : decide (k = ns.length) = false := decide_eq_false hkn
              go_wp2
              go_quiet (fail)
              go_wp2
              go_roundw
              case rel => exact ⟨k, i + 1, rfl, by go_num, hlt, hk, ⟨sub_hit HS0.out hlt⟩, ⟨pw_below_drewN HW0.out _⟩⟩
              case measure => simp [intOf]; omega
            · have hn := hnext (fun e => h2 (by rw [e]))
              have hb2 : (p.f2 == q.f2) = false := by simp [h2]
              clear h0 h1 h2 hnext
              go_wp2
              go_quiet (fail)
              go_wp2
              go_roundw
              case rel => exact ⟨k + 1, by go_num, hklt, hn, ⟨pw_below_drewN HW0.out _⟩⟩
              case measure => simp [intOf]; omega
          · have hn := hnext (fun e => h1 (by rw [e]))
            have hb1 : (p.f1 == q.f1) = false := by simp [h1]
            clear h0 h1 hnext
            go_wp2
            go_quiet (fail)
            go_wp2
            go_roundw
            case rel => exact ⟨k + 1, by go_num, hklt, hn, ⟨pw_below_drewN HW0.out _⟩⟩
            case measure => simp [intOf]; omega
        · have hn := hnext (fun e => h0 (by rw [e]))
          have hb0 : (p.f0 == q.f0) = false := by simp [h0]
          clear h0 hnext
          go_wp2
          go_quiet (fail)
          go_wp2
          go_roundw
          case rel => exact ⟨k + 1, by go_num, hklt, hn, ⟨pw_below_drewN HW0.out _⟩⟩
          case measure => simp [intOf]; omega
    · have hie : i = ms.length := by omega
      have g1 : ¬ (i : Int) < (ms.length : Int) := by omega
      have hml : ms.length ≤ ns.length := HSUB.out.length_le
      have hml2 : (ms.length : Int) ≤ (ns.length : Int) := by omega
      clear hie
      go_wp2_with fail
      refine (awake_x _).mono ?_
      rintro e w5 ⟨rfl, hb5⟩
      have HB5 := Aside0.mk ((HB4.out.trans (HW0.out.mono HB4.out.size)).trans (hb5.mono ((HB4.out.trans (HW0.out.mono HB4.out.size)).size)))
      go_wp2
      go_ret
      exact ⟨rfl, HB5.out⟩
end Go.Proofs.Ythcgiacjmfmamaa.PA

namespace Go.Proofs.Ythcgiacjmfmamaa.QueryNarrows
open Go.ChangeShapes Go.WideShapes Go.ChangeAt Go.RowKit
open Go.ChangeMaps (open_string shut_string)
set_option linter.unusedVariables false
set_option maxRecDepth 100000 in
theorem lifted (os : Os) (started : os.Started) (H : Type) (enc : TypeId × Value → H) :
    ReturnsInHanded {} Try.checked os 6 .any (Rows.queryNarrowsSpec.pre6 enc Try.prog Try.f6 Rows.queryNarrowsRow.domain false) (Rows.queryNarrowsSpec.post enc Try.prog Try.f6 false true false false) := by
  refine returnsInHanded_of_change_sized (C := Try.checked) PA.own_kn started (by kernel_rfl) Try.func6
    (ChangeSpec.witness6 (enc := enc) (C := Try.checked) false ⟨#[], #[.slice none 0 0, .agg #[.int .i64 0, .int .i64 0], .agg #[.int .i64 0, .int .i64 0]], []⟩ 8 (by kernel_rfl) (by kernel_rfl) (by kernel_rfl) (by kernel_rfl)) ?_
  intro W base args ds gs before hval0 hW hcnd hsz0 _
  have hval : ∀ (j : Nat) t v, Try.f6.params[j]? = some t → args[j]? = some v → Value.okWide Try.prog W .any base t v := hval0
  have hW' := hW
  obtain ⟨p, q, hA0, hV, rfl, hfz, hnd⟩ := hW
  have hA : DataW.TrodAll enc Try.prog W 0 (fun _ => true) true Try.f6.params.toList args.toList ds p := hA0
  rw [Try.params6] at hA hval
  obtain ⟨v0, vs0, d0, ds0, p0, q0, hargs, rfl, rfl, h0, r0⟩ := trodAll_cons hA
  obtain ⟨v1, vs1, d1, ds1, p1, q1, rfl, rfl, rfl, h1, r1⟩ := trodAll_cons r0
  obtain ⟨v2, vs2, d2, ds2, p2, q2, rfl, rfl, rfl, h2, r2⟩ := trodAll_cons r1
  obtain ⟨rfl, rfl, rfl⟩ := trodAll_nil r2
  obtain rfl : args = #[v0, v1, v2] := by cases args; simp_all
  obtain ⟨rfl, rfl⟩ := trodVars_none hV
  have k0 := h0
  have lt0 : ∀ x ∈ p0, x.block < W.heap.size := by obtain ⟨m, hm⟩ := k0; exact DataW.trod_lt m _ _ _ hm
  obtain ⟨A0, c0, l0, rfl, hC0⟩ := PA.open_bundles (hval 0 29 v0 rfl rfl) h0
  have k1 := h1
  have lt1 : ∀ x ∈ p1, x.block < W.heap.size := by obtain ⟨m, hm⟩ := k1; exact DataW.trod_lt m _ _ _ hm
  obtain ⟨qa1, qn1, rfl, ha1, hn1⟩ := PA.open_query (hval 1 23 v1 rfl rfl) h1
  have k2 := h2
  have lt2 : ∀ x ∈ p2, x.block < W.heap.size := by obtain ⟨m, hm⟩ := k2; exact DataW.trod_lt m _ _ _ hm
  obtain ⟨qa2, qn2, rfl, ha2, hn2⟩ := PA.open_query (hval 2 23 v2 rfl rfl) h2
  clear hA0 hval0 hsz0
  refine (PA.lawnarrows_x W A0 c0 l0 hC0 qa1 qn1 qa2 qn2 ha1 ha2).mono fun e W' ⟨he, bel⟩ => ?_
  subst he
  exact ⟨_, rfl, _, _, _, [], _, [], hW', trodAll_mk1 (shut_bool Try.underlying4 _), (trodAll_cons_mk (Below.trod PA.laidOut (by kernel_rfl) (of_decide_eq_true (by kernel_rfl)) k0 bel lt0) (trodAll_cons_mk (Below.trod PA.laidOut (by kernel_rfl) (of_decide_eq_true (by kernel_rfl)) k1 bel lt1) (trodAll_cons_mk (Below.trod PA.laidOut (by kernel_rfl) (of_decide_eq_true (by kernel_rfl)) k2 bel lt2) trodAll_mk0))), rfl, bel.frame _, fun h => by cases h⟩
theorem over : Rows.queryNarrowsRow.holds Try.pinned (OpenSpec.ofChange Rows.queryNarrowsSpec) :=
  OpenClaim.holds_of_wide 6 Try.f6 rfl rfl rfl rfl rfl rfl rfl ⟨rfl, rfl, rfl, rfl, rfl⟩ rfl rfl rfl rfl rfl (by kernel_rfl) Try.func6 (by kernel_rfl)
    (of_decide_eq_true (by kernel_rfl)) (by unfold Func.isWrapper; first | (rw [if_pos (by decide +kernel)]; kernel_rfl) | (rw [if_neg (by decide +kernel)]; exact ⟨rfl, rfl⟩))
    (fun os started H enc _ => lifted os started H enc)
theorem proved : Rows.QueryNarrowsSaid := over
#print axioms proved
end Go.Proofs.Ythcgiacjmfmamaa.QueryNarrows
namespace Go.Proofs.Ythcgiacjmfmamaa
theorem queryNarrows_holds : Rows.QueryNarrowsSaid := QueryNarrows.proved
end Go.Proofs.Ythcgiacjmfmamaa
