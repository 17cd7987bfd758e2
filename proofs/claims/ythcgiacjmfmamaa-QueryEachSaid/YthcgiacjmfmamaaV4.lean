/-
  Functions of the program in Lean, printed by the kit's print program (print.py), as far as this proof uses them; trimmed by a program of this session.
-/
import Derived.Test.YthcgiacjmfmamaaV0
import Derived.Test.YthcgiacjmfmamaaV3
namespace Go.Proofs.Ythcgiacjmfmamaa.PA
open Go.RowKit Go.Proofs.YthcgiacjmfmamaaW.PrintWords Go.Proofs.YthcgiacjmfmamaaW.PrintLast Go.Proofs.YthcgiacjmfmamaaW.PrintMore
attribute [local go_sem] max2_int min2_int max_two min_two max_three max_four
set_option linter.unusedVariables false
set_option linter.unusedSimpArgs false
mutual
def hedgerowref09_Sorted.l0 : Nat → List (S51) → List (S51) → Int → Option ((List (S51)))
  | 0, _, _, _ => none
  | k + 1, x0, x3, x4 => if x4 < (x0.length : Int) then (if 0 ≤ x4 then (if x3.length < 1599289640401 then (hedgerowref09_Sorted.l1 k x0 (x3 ++ [(⟨(⟨(rd_T51 x0 x4).f0.f0, (rd_T51 x0 x4).f0.f1, (rd_T51 x0 x4).f0.f2⟩ : S48), (rd_T51 x0 x4).f1, (rd_T51 x0 x4).f2, (rd_T51 x0 x4).f3, (rd_T51 x0 x4).f4, (rd_T51 x0 x4).f5, (rd_T51 x0 x4).f6, (rd_T51 x0 x4).f7, (rd_T51 x0 x4).f8⟩ : S51)]) x4 (x3.length : Int)) else (none)) else (none)) else (some x3)
def hedgerowref09_Sorted.l1 : Nat → List (S51) → List (S51) → Int → Int → Option ((List (S51)))
  | 0, _, _, _, _ => none
  | k + 1, x0, x3, x4, x5 => if x5 > 0 then (if 0 ≤ x4 then (if x4 < (x0.length : Int) then (if 0 ≤ (wrap64 (x5 - 1)) then (if (wrap64 (x5 - 1)) < (x3.length : Int) then ((hedgerowref09_Before.f ((rd_T51 x0 x4).f0.f0) ((rd_T51 x0 x4).f0.f1) ((rd_T51 x0 x4).f0.f2) ((rd_T51 x3 (wrap64 (x5 - 1))).f0.f0) ((rd_T51 x3 (wrap64 (x5 - 1))).f0.f1) ((rd_T51 x3 (wrap64 (x5 - 1))).f0.f2)).bind fun t129 => (if t129 = true then (if 0 ≤ x5 then (if x5 < (x3.length : Int) then (hedgerowref09_Sorted.l1 k x0 (x3.set (x5 : Int).toNat (⟨(⟨(rd_T51 x3 (wrap64 (x5 - 1))).f0.f0, (rd_T51 x3 (wrap64 (x5 - 1))).f0.f1, (rd_T51 x3 (wrap64 (x5 - 1))).f0.f2⟩ : S48), (rd_T51 x3 (wrap64 (x5 - 1))).f1, (rd_T51 x3 (wrap64 (x5 - 1))).f2, (rd_T51 x3 (wrap64 (x5 - 1))).f3, (rd_T51 x3 (wrap64 (x5 - 1))).f4, (rd_T51 x3 (wrap64 (x5 - 1))).f5, (rd_T51 x3 (wrap64 (x5 - 1))).f6, (rd_T51 x3 (wrap64 (x5 - 1))).f7, (rd_T51 x3 (wrap64 (x5 - 1))).f8⟩ : S51)) x4 (wrap64 (x5 - 1))) else (none)) else (none)) else (if 0 ≤ x5 then (if x5 < (x3.length : Int) then (hedgerowref09_Sorted.l0 k x0 (x3.set (x5 : Int).toNat (⟨(⟨(rd_T51 x0 x4).f0.f0, (rd_T51 x0 x4).f0.f1, (rd_T51 x0 x4).f0.f2⟩ : S48), (rd_T51 x0 x4).f1, (rd_T51 x0 x4).f2, (rd_T51 x0 x4).f3, (rd_T51 x0 x4).f4, (rd_T51 x0 x4).f5, (rd_T51 x0 x4).f6, (rd_T51 x0 x4).f7, (rd_T51 x0 x4).f8⟩ : S51)) (wrap64 (x4 + 1))) else (none)) else (none)))) else (none)) else (none)) else (none)) else (none)) else (if 0 ≤ x4 then (if x4 < (x0.length : Int) then (if 0 ≤ x5 then (if x5 < (x3.length : Int) then (hedgerowref09_Sorted.l0 k x0 (x3.set (x5 : Int).toNat (⟨(⟨(rd_T51 x0 x4).f0.f0, (rd_T51 x0 x4).f0.f1, (rd_T51 x0 x4).f0.f2⟩ : S48), (rd_T51 x0 x4).f1, (rd_T51 x0 x4).f2, (rd_T51 x0 x4).f3, (rd_T51 x0 x4).f4, (rd_T51 x0 x4).f5, (rd_T51 x0 x4).f6, (rd_T51 x0 x4).f7, (rd_T51 x0 x4).f8⟩ : S51)) (wrap64 (x4 + 1))) else (none)) else (none)) else (none)) else (none))
end
def hedgerowref09_Sorted.f (k : Nat) (l0 : List (S51)) : Option ((List (S51))) := hedgerowref09_Sorted.l0 k l0 ([] : List (S51)) 0
def hedgerowref09_Sorted.T7 : Bool × List (List Nat × List Nat) := (true, [([], []), ([0], [0]), ([1], [1]), ([2], [2]), ([2], [2]), ([3, 4, 2], [2, 3, 4]), ([5, 2], [2, 5]), ([6, 2], [2, 6]), ([2], [2]), ([2], [2]), ([9, 2], [2, 9]), ([8, 10, 2], [2, 8, 10]), ([11, 2], [2, 11]), ([12, 2], [2, 12]), ([7, 13, 2, 2], [2, 7, 13]), ([2, 14], [2, 14])])
def hedgerowref09_Sorted.B7 : List Nat := [0, 1, 3, 7, 7, 31, 63, 127, 7, 7, 519, 1799, 3847, 7943, 16383, 32767]
theorem hedgerowref09_Sorted.tab7 : rtab .any (opsOf Try.f54 7) = hedgerowref09_Sorted.T7 := by kernel_rfl
theorem hedgerowref09_Sorted.bits7 : waitsOk hedgerowref09_Sorted.T7.2 hedgerowref09_Sorted.B7 = true := by kernel_rfl
set_option maxHeartbeats 8000000 in
set_option maxRecDepth 100000 in
theorem hedgerowref09_Sorted.calls (k : Nat) (A0 : Option Addr) (c0 : Nat) (l0 : List (S51)) (r : List (S51)) (w : World) (hr0 : Kd.C k51 w A0 l0.length l0) (hc0 : l0.length ≤ c0) (h : hedgerowref09_Sorted.f k l0 = some r) :
    Calls Try.prog 54 #[.slice A0 l0.length c0] w fun e w' => ∃ v0_ : Value, e = .returned (v0_) ∧ Kd.R k51 51 w' w.heap.size (fun _ => True) v0_ r ∧ Below w.heap.size w w' := by
  have hu51 := Try.underlying51
  have hu48 := Try.underlying48
  have HR0 := Aside0.mk hr0
  have HC0 := Aside0.mk hc0
  clear hr0 hc0
  have HB := Aside0.mk (Below.refl w.heap.size w)
  have H : (hedgerowref09_Sorted.l0 k l0 ([] : List (S51)) 0) = some r := h
  clear h
  have H' := Aside0.mk H
  clear H
  go_enter Try.func54, Try.ntmps54
  go_wp2
  go_loopg [3, 4] k (fun kq v3 v4 w' => ∃ (x3_1 : List (S51)) (x4_1 : Int), v4 = .int .i64 x4_1 ∧ Aside0 (hedgerowref09_Sorted.l0 kq l0 x3_1 x4_1 = some r) ∧ Aside0 (kq ≤ k) ∧ Aside0 (Kd.R k51 51 w' w.heap.size (fun _ => True) v3 x3_1) ∧ Aside0 (Below w.heap.size w w'))
  case atStart => exact ⟨(([] : List (S51))), (0), (by first | rfl | (simp; done) | (simp [*]; done)), H', ⟨Nat.le_refl _⟩, ⟨by first | exact Kd.R_nil _ _ _ _ _ | exact Kd.N_nil _ _ _ _ _ | exact Kd.V_nil _ _ _ _ _ | exact Kd.Q_nil _ _ _ _ _ | exact Kd.S_nil _ _ _ _ _⟩, ⟨by repeat (first | (with_reducible first | exact HB.out | apply below_alloc | apply pw_below_drewN | apply below_drew1) | exact HB.out)⟩⟩
  case round =>
    clear H'
    obtain ⟨x3_1, x4_1, rfl, HA, HK1, HO_3, HB⟩ := hrel
    cases gk with
    | zero => exact absurd HA.out (by simp [hedgerowref09_Sorted.l0])
    | succ k1 =>
      have H := HA.out
      clear HA
      simp only [hedgerowref09_Sorted.l0] at H
      by_cases c2 : x4_1 < (l0.length : Int)
      · rw [if_pos c2] at H
        have c2b0 : decide (x4_1 < (l0.length : Int)) = true := decide_eq_true c2
        clear c2
        by_cases c3 : 0 ≤ x4_1
        · rw [if_pos c3] at H
          have c3b0 : decide (0 ≤ x4_1) = true := decide_eq_true c3
          clear c3
          by_cases c4 : x3_1.length < 1599289640401
          · rw [if_pos c4] at H
            have LMc4 := Aside0.mk c4
            clear c4
            obtain ⟨y124, hy124⟩ : ∃ y_ : List (S51), y_ = (x3_1 ++ [(⟨(⟨(rd_T51 l0 x4_1).f0.f0, (rd_T51 l0 x4_1).f0.f1, (rd_T51 l0 x4_1).f0.f2⟩ : S48), (rd_T51 l0 x4_1).f1, (rd_T51 l0 x4_1).f2, (rd_T51 l0 x4_1).f3, (rd_T51 l0 x4_1).f4, (rd_T51 l0 x4_1).f5, (rd_T51 l0 x4_1).f6, (rd_T51 l0 x4_1).f7, (rd_T51 l0 x4_1).f8⟩ : S51)]) := ⟨_, rfl⟩
            replace H : (hedgerowref09_Sorted.l1 k1 l0 y124 x4_1 (x3_1.length : Int)) = some r := by first | (rw [hy124]; with_reducible exact H) | (have H2_ := (Option.bind_some _ _).symm.trans H; rw [hy124]; with_reducible exact H2_) | (have H2_ := (Option.bind_some _ _).symm.trans H; with_reducible exact H2_) | with_reducible exact H | (rw [hy124]; exact H) | exact H
            have Ny124 := Aside0.mk hy124
            clear hy124
            have H' := Aside0.mk H
            clear H
            obtain ⟨Ao5, co5, eo5⟩ := Kd.R_slice HO_3.out
            subst eo5
            have p123 : 0 ≤ (x4_1 : Int) := of_decide_eq_true (by first | (with_reducible assumption) | assumption)
            have q123 : x4_1 < (l0.length : Int) := of_decide_eq_true (by first | (with_reducible assumption) | assumption)
            obtain ⟨ad123, e123, hx123_0, hx123_1, hx123_2, hx123_3, hx123_4, hx123_5, hx123_6, hx123_7, hx123_8, hx123_9, hx123_10⟩ := at_T51 HR0.out x4_1 p123 q123
            cases e123
            replace hx123_0 := (HB.out.cell (World.block_lt_of_cell? w _ hx123_0)).trans hx123_0
            replace hx123_1 := (HB.out.cell (World.block_lt_of_cell? w _ hx123_1)).trans hx123_1
            replace hx123_2 := (HB.out.cell (World.block_lt_of_cell? w _ hx123_2)).trans hx123_2
            replace hx123_3 := (HB.out.cell (World.block_lt_of_cell? w _ hx123_3)).trans hx123_3
            replace hx123_4 := (HB.out.cell (World.block_lt_of_cell? w _ hx123_4)).trans hx123_4
            replace hx123_5 := (HB.out.cell (World.block_lt_of_cell? w _ hx123_5)).trans hx123_5
            replace hx123_6 := (HB.out.cell (World.block_lt_of_cell? w _ hx123_6)).trans hx123_6
            replace hx123_7 := (HB.out.cell (World.block_lt_of_cell? w _ hx123_7)).trans hx123_7
            replace hx123_8 := (HB.out.cell (World.block_lt_of_cell? w _ hx123_8)).trans hx123_8
            replace hx123_9 := (HB.out.cell (World.block_lt_of_cell? w _ hx123_9)).trans hx123_9
            replace hx123_10 := (HB.out.cell (World.block_lt_of_cell? w _ hx123_10)).trans hx123_10
            replace p123 := eq_true p123
            replace q123 := eq_true q123
            go_wp2_with (first | ((with_reducible refine gate_builtin (b := .append) (xs := #[.tmp 14, .tmp 19]) rfl ?_); at_builtin; refine Kd.R_append k51 (w0 := w) w.heap.size rfl (.tmp 14) (.tmp 19) 29 51 (.agg #[(.int .i64 0), (.int .i64 0), (.int .i64 0), (.int .i64 0), (.int .i64 0), (.int .i64 0), (.int .i64 0), (.int .i64 0), (.int .i64 0), (.int .i64 0), (.int .i64 0)]) 88 rfl Try.underlying29 info51 rfl (by decide) (by omega) (.slice Ao5 x3_1.length co5) x3_1 (⟨(⟨(rd_T51 l0 x4_1).f0.f0, (rd_T51 l0 x4_1).f0.f1, (rd_T51 l0 x4_1).f0.f2⟩ : S48), (rd_T51 l0 x4_1).f1, (rd_T51 l0 x4_1).f2, (rd_T51 l0 x4_1).f3, (rd_T51 l0 x4_1).f4, (rd_T51 l0 x4_1).f5, (rd_T51 l0 x4_1).f6, (rd_T51 l0 x4_1).f7, (rd_T51 l0 x4_1).f8⟩ : S51) [.int .i64 ((rd_T51 l0 x4_1).f0.f0), .int .i64 ((rd_T51 l0 x4_1).f0.f1), .int .i64 ((rd_T51 l0 x4_1).f0.f2), .int .i64 ((rd_T51 l0 x4_1).f1), .int .i64 ((rd_T51 l0 x4_1).f2), .int .i64 ((rd_T51 l0 x4_1).f3), .int .i64 ((rd_T51 l0 x4_1).f4), .int .i64 ((rd_T51 l0 x4_1).f5), .int .i64 ((rd_T51 l0 x4_1).f6), .int .i64 ((rd_T51 l0 x4_1).f7), .int .i64 ((rd_T51 l0 x4_1).f8)] (fun _ => True) (fun _ => False) rfl rfl ?aP (fun _ hk => hk.elim) ?aF ?aO ?aB ?aS ?aL ?_; (case aP => exact k51_mkM _ _ _ (⟨(⟨(rd_T51 l0 x4_1).f0.f0, (rd_T51 l0 x4_1).f0.f1, (rd_T51 l0 x4_1).f0.f2⟩ : S48), (rd_T51 l0 x4_1).f1, (rd_T51 l0 x4_1).f2, (rd_T51 l0 x4_1).f3, (rd_T51 l0 x4_1).f4, (rd_T51 l0 x4_1).f5, (rd_T51 l0 x4_1).f6, (rd_T51 l0 x4_1).f7, (rd_T51 l0 x4_1).f8⟩ : S51)); (case aB => exact (by repeat (first | (with_reducible first | exact HB.out | apply below_alloc | apply pw_below_drewN | apply below_drew1) | exact HB.out))); (case aF => exact (fun _ _ => trivial)); (case aO => exact (by (with_reducible repeat (first | apply Kd.R_alloc | apply Kd.R_drewN | apply Kd.R_drew)); exact HO_3.out)); (case aS => exact (below_size (by repeat (first | (with_reducible first | exact HB.out | apply below_alloc | apply pw_below_drewN | apply below_drew1) | exact HB.out)))); (case aL => have := LMc4.out; omega); intro v125 w6 ho hb hg hat; rw [← Ny124.out] at ho; have n0_ := Aside0.mk (hb); have n1_ := Aside0.mk (ho); clear HB; clear HO_3; have HB := n0_; have HO126 := n1_; clear n0_ n1_; clear ho hb hg hat))
            go_loopg [5] k1 (fun kq v5 w' => ∃ (x3_2 : List (S51)) (x5_2 : Int), v5 = .int .i64 x5_2 ∧ Aside0 (hedgerowref09_Sorted.l1 kq l0 x3_2 x4_1 x5_2 = some r) ∧ Aside0 (kq ≤ k1) ∧ Aside0 (Kd.R k51 51 w' w.heap.size (fun _ => True) v125 x3_2) ∧ Aside0 (Below w.heap.size w w'))
            case atStart => exact ⟨(y124), ((x3_1.length : Int)), (by first | rfl | (simp; done) | (simp [*]; done)), H', ⟨Nat.le_refl _⟩, ⟨by (with_reducible repeat (first | apply Kd.R_alloc | apply Kd.R_drewN | apply Kd.R_drew)); exact HO126.out⟩, ⟨by repeat (first | (with_reducible first | exact HB.out | apply below_alloc | apply pw_below_drewN | apply below_drew1) | exact HB.out)⟩⟩
            case round =>
              clear H'
              try clear p1
              try clear q1
              try clear hx1
              try clear c2
              try clear c2b0
              try clear p2
              try clear c3
              try clear c3b0
              try clear c4
              try clear c5
              try clear hx123_0
              try clear hx123_1
              try clear hx123_10
              try clear hx123_2
              try clear hx123_3
              try clear hx123_4
              try clear hx123_5
              try clear hx123_6
              try clear hx123_7
              try clear hx123_8
              try clear hx123_9
              try clear p123
              try clear q123
              obtain ⟨x3_2, x5_2, rfl, HA, HK2, HO_3, HB⟩ := hrel
              cases gk with
              | zero => exact absurd HA.out (by simp [hedgerowref09_Sorted.l1])
              | succ k2 =>
                have H := HA.out
                clear HA
                simp only [hedgerowref09_Sorted.l1] at H
                by_cases c7 : x5_2 > 0
                · rw [if_pos c7] at H
                  have c7b0 : decide (0 < x5_2) = true := decide_eq_true c7
                  clear c7
                  by_cases c8 : 0 ≤ x4_1
                  · rw [if_pos c8] at H
                    have c8b0 : decide (0 ≤ x4_1) = true := decide_eq_true c8
                    clear c8
                    by_cases c9 : x4_1 < (l0.length : Int)
                    · rw [if_pos c9] at H
                      have c9b0 : decide (x4_1 < (l0.length : Int)) = true := decide_eq_true c9
                      clear c9
                      obtain ⟨ji10, hji10⟩ : ∃ j_ : Int, (wrap64 (x5_2 - 1)) = j_ := ⟨_, rfl⟩
                      replace H : (if 0 ≤ (ji10) then (if (ji10) < (x3_2.length : Int) then ((hedgerowref09_Before.f ((rd_T51 l0 x4_1).f0.f0) ((rd_T51 l0 x4_1).f0.f1) ((rd_T51 l0 x4_1).f0.f2) ((rd_T51 x3_2 (ji10)).f0.f0) ((rd_T51 x3_2 (ji10)).f0.f1) ((rd_T51 x3_2 (ji10)).f0.f2)).bind fun t129 => (if t129 = true then (if 0 ≤ x5_2 then (if x5_2 < (x3_2.length : Int) then (hedgerowref09_Sorted.l1 k2 l0 (x3_2.set (x5_2 : Int).toNat (⟨(⟨(rd_T51 x3_2 (ji10)).f0.f0, (rd_T51 x3_2 (ji10)).f0.f1, (rd_T51 x3_2 (ji10)).f0.f2⟩ : S48), (rd_T51 x3_2 (ji10)).f1, (rd_T51 x3_2 (ji10)).f2, (rd_T51 x3_2 (ji10)).f3, (rd_T51 x3_2 (ji10)).f4, (rd_T51 x3_2 (ji10)).f5, (rd_T51 x3_2 (ji10)).f6, (rd_T51 x3_2 (ji10)).f7, (rd_T51 x3_2 (ji10)).f8⟩ : S51)) x4_1 ji10) else (none)) else (none)) else (if 0 ≤ x5_2 then (if x5_2 < (x3_2.length : Int) then (hedgerowref09_Sorted.l0 k2 l0 (x3_2.set (x5_2 : Int).toNat (⟨(⟨(rd_T51 l0 x4_1).f0.f0, (rd_T51 l0 x4_1).f0.f1, (rd_T51 l0 x4_1).f0.f2⟩ : S48), (rd_T51 l0 x4_1).f1, (rd_T51 l0 x4_1).f2, (rd_T51 l0 x4_1).f3, (rd_T51 l0 x4_1).f4, (rd_T51 l0 x4_1).f5, (rd_T51 l0 x4_1).f6, (rd_T51 l0 x4_1).f7, (rd_T51 l0 x4_1).f8⟩ : S51)) (wrap64 (x4_1 + 1))) else (none)) else (none)))) else (none)) else (none)) = some r := by first | (rw [hji10] at H; exact H) | (simp only [hji10] at H ⊢; exact H)
                      have hji10w : (IntKind.i64.wrap (x5_2 - 1)) = ji10 := (i64_w _).trans hji10
                      by_cases c11 : 0 ≤ (ji10)
                      · rw [if_pos c11] at H
                        have c11b0 : decide (0 ≤ (ji10)) = true := decide_eq_true c11
                        clear c11
                        by_cases c12 : (ji10) < (x3_2.length : Int)
                        · rw [if_pos c12] at H
                          have c12b0 : decide ((ji10) < (x3_2.length : Int)) = true := decide_eq_true c12
                          clear c12
                          replace H := Option.bind_eq_some_iff.mp H
                          obtain ⟨t129, A130, H⟩ := H
                          replace H : (if t129 = true then (if 0 ≤ x5_2 then (if x5_2 < (x3_2.length : Int) then (hedgerowref09_Sorted.l1 k2 l0 (x3_2.set (x5_2 : Int).toNat (⟨(⟨(rd_T51 x3_2 (ji10)).f0.f0, (rd_T51 x3_2 (ji10)).f0.f1, (rd_T51 x3_2 (ji10)).f0.f2⟩ : S48), (rd_T51 x3_2 (ji10)).f1, (rd_T51 x3_2 (ji10)).f2, (rd_T51 x3_2 (ji10)).f3, (rd_T51 x3_2 (ji10)).f4, (rd_T51 x3_2 (ji10)).f5, (rd_T51 x3_2 (ji10)).f6, (rd_T51 x3_2 (ji10)).f7, (rd_T51 x3_2 (ji10)).f8⟩ : S51)) x4_1 ji10) else (none)) else (none)) else (if 0 ≤ x5_2 then (if x5_2 < (x3_2.length : Int) then (hedgerowref09_Sorted.l0 k2 l0 (x3_2.set (x5_2 : Int).toNat (⟨(⟨(rd_T51 l0 x4_1).f0.f0, (rd_T51 l0 x4_1).f0.f1, (rd_T51 l0 x4_1).f0.f2⟩ : S48), (rd_T51 l0 x4_1).f1, (rd_T51 l0 x4_1).f2, (rd_T51 l0 x4_1).f3, (rd_T51 l0 x4_1).f4, (rd_T51 l0 x4_1).f5, (rd_T51 l0 x4_1).f6, (rd_T51 l0 x4_1).f7, (rd_T51 l0 x4_1).f8⟩ : S51)) (wrap64 (x4_1 + 1))) else (none)) else (none))) = some r := H
                          have A13 := Aside0.mk A130
                          clear A130
                          by_cases c14 : t129 = true
                          · subst c14
                            have H1 : (if 0 ≤ x5_2 then (if x5_2 < (x3_2.length : Int) then (hedgerowref09_Sorted.l1 k2 l0 (x3_2.set (x5_2 : Int).toNat (⟨(⟨(rd_T51 x3_2 (ji10)).f0.f0, (rd_T51 x3_2 (ji10)).f0.f1, (rd_T51 x3_2 (ji10)).f0.f2⟩ : S48), (rd_T51 x3_2 (ji10)).f1, (rd_T51 x3_2 (ji10)).f2, (rd_T51 x3_2 (ji10)).f3, (rd_T51 x3_2 (ji10)).f4, (rd_T51 x3_2 (ji10)).f5, (rd_T51 x3_2 (ji10)).f6, (rd_T51 x3_2 (ji10)).f7, (rd_T51 x3_2 (ji10)).f8⟩ : S51)) x4_1 ji10) else (none)) else (none)) = some r := by rw [if_pos rfl] at H; exact H
                            clear H
                            have H := H1
                            clear H1
                            by_cases c15 : 0 ≤ x5_2
                            · rw [if_pos c15] at H
                              have c15b0 : decide (0 ≤ x5_2) = true := decide_eq_true c15
                              clear c15
                              by_cases c16 : x5_2 < (x3_2.length : Int)
                              · rw [if_pos c16] at H
                                have c16b0 : decide (x5_2 < (x3_2.length : Int)) = true := decide_eq_true c16
                                clear c16
                                obtain ⟨y131, hy131⟩ : ∃ y_ : List (S51), y_ = (x3_2.set (x5_2 : Int).toNat (⟨(⟨(rd_T51 x3_2 (ji10)).f0.f0, (rd_T51 x3_2 (ji10)).f0.f1, (rd_T51 x3_2 (ji10)).f0.f2⟩ : S48), (rd_T51 x3_2 (ji10)).f1, (rd_T51 x3_2 (ji10)).f2, (rd_T51 x3_2 (ji10)).f3, (rd_T51 x3_2 (ji10)).f4, (rd_T51 x3_2 (ji10)).f5, (rd_T51 x3_2 (ji10)).f6, (rd_T51 x3_2 (ji10)).f7, (rd_T51 x3_2 (ji10)).f8⟩ : S51)) := ⟨_, rfl⟩
                                replace H : (hedgerowref09_Sorted.l1 k2 l0 y131 x4_1 ji10) = some r := by first | (rw [hy131]; with_reducible exact H) | (have H2_ := (Option.bind_some _ _).symm.trans H; rw [hy131]; with_reducible exact H2_) | (have H2_ := (Option.bind_some _ _).symm.trans H; with_reducible exact H2_) | with_reducible exact H | (rw [hy131]; exact H) | exact H
                                have Ny131 := Aside0.mk hy131
                                clear hy131
                                have H' := Aside0.mk H
                                clear H
                                try go_wp2
                                have n0_ := Aside0.mk (Kd.R_drew HO_3.out)
                                have n1_ := Aside0.mk (below_drew1 HB.out)
                                clear HO_3
                                clear HB
                                have HO_3 := n0_
                                have HB := n1_
                                clear n0_ n1_
                                have p127 : 0 ≤ (x4_1 : Int) := of_decide_eq_true (by first | (with_reducible assumption) | assumption)
                                have q127 : x4_1 < (l0.length : Int) := of_decide_eq_true (by first | (with_reducible assumption) | assumption)
                                obtain ⟨ad127, e127, hx127_0, hx127_1, hx127_2, hx127_3, hx127_4, hx127_5, hx127_6, hx127_7, hx127_8, hx127_9, hx127_10⟩ := at_T51 HR0.out x4_1 p127 q127
                                have hw127_10 := hx127_10
                                have hw127_9 := hx127_9
                                have hw127_8 := hx127_8
                                have hw127_7 := hx127_7
                                have hw127_6 := hx127_6
                                have hw127_5 := hx127_5
                                have hw127_4 := hx127_4
                                have hw127_3 := hx127_3
                                have hw127_2 := hx127_2
                                have hw127_1 := hx127_1
                                have hw127_0 := hx127_0
                                obtain rfl : ad123 = ad127 := (by injection e127)
                                replace hx127_0 := (HB.out.cell (World.block_lt_of_cell? w _ hx127_0)).trans hx127_0
                                replace hx127_1 := (HB.out.cell (World.block_lt_of_cell? w _ hx127_1)).trans hx127_1
                                replace hx127_2 := (HB.out.cell (World.block_lt_of_cell? w _ hx127_2)).trans hx127_2
                                replace hx127_3 := (HB.out.cell (World.block_lt_of_cell? w _ hx127_3)).trans hx127_3
                                replace hx127_4 := (HB.out.cell (World.block_lt_of_cell? w _ hx127_4)).trans hx127_4
                                replace hx127_5 := (HB.out.cell (World.block_lt_of_cell? w _ hx127_5)).trans hx127_5
                                replace hx127_6 := (HB.out.cell (World.block_lt_of_cell? w _ hx127_6)).trans hx127_6
                                replace hx127_7 := (HB.out.cell (World.block_lt_of_cell? w _ hx127_7)).trans hx127_7
                                replace hx127_8 := (HB.out.cell (World.block_lt_of_cell? w _ hx127_8)).trans hx127_8
                                replace hx127_9 := (HB.out.cell (World.block_lt_of_cell? w _ hx127_9)).trans hx127_9
                                replace hx127_10 := (HB.out.cell (World.block_lt_of_cell? w _ hx127_10)).trans hx127_10
                                replace p127 := eq_true p127
                                replace q127 := eq_true q127
                                obtain ⟨Ao19, co19, eo19⟩ := Kd.R_slice HO_3.out
                                (first | subst eo19 | (injection eo19 with f1_ f2_ f3_; have f4_ := f1_.symm; have f5_ := f3_.symm; clear f1_ f2_ f3_; subst f4_; subst f5_))
                                have p128 : 0 ≤ ((ji10) : Int) := of_decide_eq_true (by first | (with_reducible assumption) | assumption)
                                have q128 : (ji10) < (x3_2.length : Int) := of_decide_eq_true (by first | (with_reducible assumption) | assumption)
                                obtain ⟨ad128, e128, hx128_0, hx128_1, hx128_2, hx128_3, hx128_4, hx128_5, hx128_6, hx128_7, hx128_8, hx128_9, hx128_10⟩ := at_T51 (Kd.R_reads' HO_3.out).2.2 (ji10) p128 q128
                                cases e128
                                replace p128 := eq_true p128
                                replace q128 := eq_true q128
                                refine start_ (n := 16) (S := fun w' => w'.cell? (ad123.add ((x4_1).toNat * 11)) = some (.int .i64 ((rd_T51 l0 x4_1).f0.f0)) ∧ w'.cell? ⟨(ad123.add ((x4_1).toNat * 11)).block, (ad123.add ((x4_1).toNat * 11)).off + 1, none⟩ = some (.int .i64 ((rd_T51 l0 x4_1).f0.f1)) ∧ w'.cell? ⟨(ad123.add ((x4_1).toNat * 11)).block, (ad123.add ((x4_1).toNat * 11)).off + 2, none⟩ = some (.int .i64 ((rd_T51 l0 x4_1).f0.f2)) ∧ w'.cell? ⟨(ad123.add ((x4_1).toNat * 11)).block, (ad123.add ((x4_1).toNat * 11)).off + 3, none⟩ = some (.int .i64 ((rd_T51 l0 x4_1).f1)) ∧ w'.cell? ⟨(ad123.add ((x4_1).toNat * 11)).block, (ad123.add ((x4_1).toNat * 11)).off + 4, none⟩ = some (.int .i64 ((rd_T51 l0 x4_1).f2)) ∧ w'.cell? ⟨(ad123.add ((x4_1).toNat * 11)).block, (ad123.add ((x4_1).toNat * 11)).off + 5, none⟩ = some (.int .i64 ((rd_T51 l0 x4_1).f3)) ∧ w'.cell? ⟨(ad123.add ((x4_1).toNat * 11)).block, (ad123.add ((x4_1).toNat * 11)).off + 6, none⟩ = some (.int .i64 ((rd_T51 l0 x4_1).f4)) ∧ w'.cell? ⟨(ad123.add ((x4_1).toNat * 11)).block, (ad123.add ((x4_1).toNat * 11)).off + 7, none⟩ = some (.int .i64 ((rd_T51 l0 x4_1).f5)) ∧ w'.cell? ⟨(ad123.add ((x4_1).toNat * 11)).block, (ad123.add ((x4_1).toNat * 11)).off + 8, none⟩ = some (.int .i64 ((rd_T51 l0 x4_1).f6)) ∧ w'.cell? ⟨(ad123.add ((x4_1).toNat * 11)).block, (ad123.add ((x4_1).toNat * 11)).off + 9, none⟩ = some (.int .i64 ((rd_T51 l0 x4_1).f7)) ∧ w'.cell? ⟨(ad123.add ((x4_1).toNat * 11)).block, (ad123.add ((x4_1).toNat * 11)).off + 10, none⟩ = some (.int .i64 ((rd_T51 l0 x4_1).f8)) ∧ w'.cell? (ad128.add (((ji10)).toNat * 11)) = some (.int .i64 ((rd_T51 x3_2 (ji10)).f0.f0)) ∧ w'.cell? ⟨(ad128.add (((ji10)).toNat * 11)).block, (ad128.add (((ji10)).toNat * 11)).off + 1, none⟩ = some (.int .i64 ((rd_T51 x3_2 (ji10)).f0.f1)) ∧ w'.cell? ⟨(ad128.add (((ji10)).toNat * 11)).block, (ad128.add (((ji10)).toNat * 11)).off + 2, none⟩ = some (.int .i64 ((rd_T51 x3_2 (ji10)).f0.f2)) ∧ w'.cell? ⟨(ad128.add (((ji10)).toNat * 11)).block, (ad128.add (((ji10)).toNat * 11)).off + 3, none⟩ = some (.int .i64 ((rd_T51 x3_2 (ji10)).f1)) ∧ w'.cell? ⟨(ad128.add (((ji10)).toNat * 11)).block, (ad128.add (((ji10)).toNat * 11)).off + 4, none⟩ = some (.int .i64 ((rd_T51 x3_2 (ji10)).f2)) ∧ w'.cell? ⟨(ad128.add (((ji10)).toNat * 11)).block, (ad128.add (((ji10)).toNat * 11)).off + 5, none⟩ = some (.int .i64 ((rd_T51 x3_2 (ji10)).f3)) ∧ w'.cell? ⟨(ad128.add (((ji10)).toNat * 11)).block, (ad128.add (((ji10)).toNat * 11)).off + 6, none⟩ = some (.int .i64 ((rd_T51 x3_2 (ji10)).f4)) ∧ w'.cell? ⟨(ad128.add (((ji10)).toNat * 11)).block, (ad128.add (((ji10)).toNat * 11)).off + 7, none⟩ = some (.int .i64 ((rd_T51 x3_2 (ji10)).f5)) ∧ w'.cell? ⟨(ad128.add (((ji10)).toNat * 11)).block, (ad128.add (((ji10)).toNat * 11)).off + 8, none⟩ = some (.int .i64 ((rd_T51 x3_2 (ji10)).f6)) ∧ w'.cell? ⟨(ad128.add (((ji10)).toNat * 11)).block, (ad128.add (((ji10)).toNat * 11)).off + 9, none⟩ = some (.int .i64 ((rd_T51 x3_2 (ji10)).f7)) ∧ w'.cell? ⟨(ad128.add (((ji10)).toNat * 11)).block, (ad128.add (((ji10)).toNat * 11)).off + 10, none⟩ = some (.int .i64 ((rd_T51 x3_2 (ji10)).f8))) (ds := []) #[false, false, false, false, false, false, false, false, false, false, false, false, false, false, false, false] (by kernel_rfl) rfl rfl ⟨((HB.out.cell (World.block_lt_of_cell? w _ hw127_0)).trans hw127_0), ((HB.out.cell (World.block_lt_of_cell? w _ hw127_1)).trans hw127_1), ((HB.out.cell (World.block_lt_of_cell? w _ hw127_2)).trans hw127_2), ((HB.out.cell (World.block_lt_of_cell? w _ hw127_3)).trans hw127_3), ((HB.out.cell (World.block_lt_of_cell? w _ hw127_4)).trans hw127_4), ((HB.out.cell (World.block_lt_of_cell? w _ hw127_5)).trans hw127_5), ((HB.out.cell (World.block_lt_of_cell? w _ hw127_6)).trans hw127_6), ((HB.out.cell (World.block_lt_of_cell? w _ hw127_7)).trans hw127_7), ((HB.out.cell (World.block_lt_of_cell? w _ hw127_8)).trans hw127_8), ((HB.out.cell (World.block_lt_of_cell? w _ hw127_9)).trans hw127_9), ((HB.out.cell (World.block_lt_of_cell? w _ hw127_10)).trans hw127_10), hx128_0, hx128_1, hx128_2, hx128_3, hx128_4, hx128_5, hx128_6, hx128_7, hx128_8, hx128_9, hx128_10⟩ (fun hHeld => ?_); refine with_tabW hedgerowref09_Sorted.tab7 hedgerowref09_Sorted.bits7 (fun HT_ HW_ => ?_)
                                generalize wr.drew = w18 at HO_3 HB hx127_0 hx127_1 hx127_10 hx127_2 hx127_3 hx127_4 hx127_5 hx127_6 hx127_7 hx127_8 hx127_9 hx128_0 hx128_1 hx128_10 hx128_2 hx128_3 hx128_4 hx128_5 hx128_6 hx128_7 hx128_8 hx128_9 hHeld ⊢
                                refine pure_ (i := 0) (N := some 21) (v := ?_) (a' := ?_) #[true, false, false, false, false, false, false, false, false, false, false, false, false, false, false, false] rfl rfl (any_of HT_.out (by kernel_rfl)) (fun _ _ _ h => h) (Or.inl ⟨by rfl, ?_⟩) ?_ ?_
                                rotate_left
                                · intro w'
                                  go_simp
                                  with_reducible rfl
                                rotate_left
                                · simp only [Act.put, List.setIfInBounds_toArray, List.set_cons_zero, List.set_cons_succ, i64_w, i32_w]
                                  rfl
                                refine pure_ (i := 1) (N := some 22) (v := ?_) (a' := ?_) #[true, true, false, false, false, false, false, false, false, false, false, false, false, false, false, false] rfl rfl (any_of HT_.out (by kernel_rfl)) (fun _ _ _ h => h) (Or.inl ⟨by rfl, ?_⟩) ?_ ?_
                                rotate_left
                                · intro w'
                                  go_simp
                                  with_reducible rfl
                                rotate_left
                                · simp only [Act.put, List.setIfInBounds_toArray, List.set_cons_zero, List.set_cons_succ, i64_w, i32_w]
                                  rfl
                                refine pure_ (i := 2) (N := some 23) (v := ?_) (a' := ?_) #[true, true, true, false, false, false, false, false, false, false, false, false, false, false, false, false] rfl rfl (any_of HT_.out (by kernel_rfl)) (fun _ _ _ h => h) (Or.inl ⟨by rfl, ?_⟩) ?_ ?_
                                rotate_left
                                · intro w'
                                  go_simp
                                  with_reducible rfl
                                rotate_left
                                · simp only [Act.put, List.setIfInBounds_toArray, List.set_cons_zero, List.set_cons_succ, i64_w, i32_w]
                                  rfl
                                refine pure_ (i := 3) (N := some 24) (v := ?_) (a' := ?_) #[true, true, true, true, false, false, false, false, false, false, false, false, false, false, false, false] rfl rfl (any_of HT_.out (by kernel_rfl)) (fun _ _ _ h => h) (Or.inl ⟨by rfl, ?_⟩) ?_ ?_
                                rotate_left
                                · intro w'
                                  go_simp
                                  with_reducible rfl
                                rotate_left
                                · simp only [Act.put, List.setIfInBounds_toArray, List.set_cons_zero, List.set_cons_succ, i64_w, i32_w]
                                  rfl
                                refine pure_ (i := 4) (N := some 25) (v := ?_) (a' := ?_) #[true, true, true, true, true, false, false, false, false, false, false, false, false, false, false, false] rfl rfl (any_of HT_.out (by kernel_rfl)) (fun _ _ _ h => h) (Or.inl ⟨by rfl, ?_⟩) ?_ ?_
                                rotate_left
                                · intro w'
                                  go_simp
                                  with_reducible rfl
                                rotate_left
                                · simp only [Act.put, List.setIfInBounds_toArray, List.set_cons_zero, List.set_cons_succ, i64_w, i32_w]
                                  rfl
                                refine pure_ (i := 5) (N := some 26) (v := ?_) (a' := ?_) #[true, true, true, true, true, true, false, false, false, false, false, false, false, false, false, false] rfl rfl (any_of HT_.out (by kernel_rfl)) (fun _ _ _ h => h) (Or.inl ⟨by rfl, ?_⟩) ?_ ?_
                                rotate_left
                                · intro w'
                                  go_simp
                                  with_reducible rfl
                                rotate_left
                                · simp only [Act.put, List.setIfInBounds_toArray, List.set_cons_zero, List.set_cons_succ, i64_w, i32_w]
                                  rfl
                                refine pure_ (i := 6) (N := some 27) (v := ?_) (a' := ?_) #[true, true, true, true, true, true, true, false, false, false, false, false, false, false, false, false] rfl rfl (any_of HT_.out (by kernel_rfl)) (fun _ _ _ h => h) (Or.inl ⟨by rfl, ?_⟩) ?_ ?_
                                rotate_left
                                · intro w'
                                  go_simp
                                  with_reducible rfl
                                rotate_left
                                · simp only [Act.put, List.setIfInBounds_toArray, List.set_cons_zero, List.set_cons_succ, i64_w, i32_w]
                                  rfl
                                refine pure_ (i := 8) (N := some 29) (v := ?_) (a' := ?_) #[true, true, true, true, true, true, true, false, true, false, false, false, false, false, false, false] rfl rfl (any_of HT_.out (by kernel_rfl)) (fun _ _ _ h => h) (Or.inl ⟨by rfl, ?_⟩) ?_ ?_
                                rotate_left
                                · intro w'
                                  go_simp
                                  with_reducible rfl
                                rotate_left
                                · simp only [Act.put, List.setIfInBounds_toArray, List.set_cons_zero, List.set_cons_succ, i64_w, i32_w]
                                  rfl
                                refine pure_ (i := 9) (N := some 30) (v := ?_) (a' := ?_) #[true, true, true, true, true, true, true, false, true, true, false, false, false, false, false, false] rfl rfl (any_of HT_.out (by kernel_rfl)) (fun _ _ _ h => h) (Or.inl ⟨by rfl, ?_⟩) ?_ ?_
                                rotate_left
                                · intro w'
                                  go_simp
                                  with_reducible rfl
                                rotate_left
                                · simp only [Act.put, List.setIfInBounds_toArray, List.set_cons_zero, List.set_cons_succ, i64_w, i32_w]
                                  rfl
                                refine pure_ (i := 10) (N := some 31) (v := ?_) (a' := ?_) #[true, true, true, true, true, true, true, false, true, true, true, false, false, false, false, false] rfl rfl (any_of HT_.out (by kernel_rfl)) (fun _ _ _ h => h) (Or.inl ⟨by rfl, ?_⟩) ?_ ?_
                                rotate_left
                                · intro w'
                                  go_simp
                                  with_reducible rfl
                                rotate_left
                                · simp only [Act.put, List.setIfInBounds_toArray, List.set_cons_zero, List.set_cons_succ, i64_w, i32_w]
                                  rfl
                                refine pure_ (i := 11) (N := some 32) (v := ?_) (a' := ?_) #[true, true, true, true, true, true, true, false, true, true, true, true, false, false, false, false] rfl rfl (any_of HT_.out (by kernel_rfl)) (fun _ _ _ h => h) (Or.inl ⟨by rfl, ?_⟩) ?_ ?_
                                rotate_left
                                · intro w'
                                  go_simp
                                  with_reducible rfl
                                rotate_left
                                · simp only [Act.put, List.setIfInBounds_toArray, List.set_cons_zero, List.set_cons_succ, i64_w, i32_w]
                                  rfl
                                refine pure_ (i := 12) (N := some 33) (v := ?_) (a' := ?_) #[true, true, true, true, true, true, true, false, true, true, true, true, true, false, false, false] rfl rfl (any_of HT_.out (by kernel_rfl)) (fun _ _ _ h => h) (Or.inl ⟨by rfl, ?_⟩) ?_ ?_
                                rotate_left
                                · intro w'
                                  go_simp
                                  with_reducible rfl
                                rotate_left
                                · simp only [Act.put, List.setIfInBounds_toArray, List.set_cons_zero, List.set_cons_succ, i64_w, i32_w]
                                  rfl
                                refine take_ (i := 7) (N := some 28) (v := ?_) (a' := ?_) #[true, true, true, true, true, true, true, true, true, true, true, true, true, false, false, false] rfl rfl (take_ofW HT_.out HW_.out (by kernel_rfl)) (fun _ _ _ h => h) (Or.inl ⟨by rfl, ?_⟩) hHeld ?_ ?_
                                rotate_left
                                · rintro w' ⟨s0, s1, s2, s3, s4, s5, s6, s7, s8, s9, s10, s11, s12, s13, s14, s15, s16, s17, s18, s19, s20, s21⟩
                                  go_simp
                                  with_reducible rfl
                                rotate_left
                                · simp only [Act.put, List.setIfInBounds_toArray, List.set_cons_zero, List.set_cons_succ, i64_w, i32_w]
                                  rfl
                                refine take_ (i := 13) (N := some 34) (v := ?_) (a' := ?_) #[true, true, true, true, true, true, true, true, true, true, true, true, true, true, false, false] rfl rfl (take_ofW HT_.out HW_.out (by kernel_rfl)) (fun _ _ _ h => h) (Or.inl ⟨by rfl, ?_⟩) hHeld ?_ ?_
                                rotate_left
                                · rintro w' ⟨s0, s1, s2, s3, s4, s5, s6, s7, s8, s9, s10, s11, s12, s13, s14, s15, s16, s17, s18, s19, s20, s21⟩
                                  go_simp
                                  with_reducible rfl
                                rotate_left
                                · simp only [Act.put, List.setIfInBounds_toArray, List.set_cons_zero, List.set_cons_succ, i64_w, i32_w]
                                  rfl
                                refine one_ (i := 14) (N := some 35) #[true, true, true, true, true, true, true, true, true, true, true, true, true, true, true, false] rfl rfl (one_of HT_.out (by kernel_rfl)) (by decide) (fun K hK => ?_)
                                refine goes_ Try.func65 (by kernel_rfl) rfl #[.agg #[.int .i64 ((rd_T51 l0 x4_1).f0.f0), .int .i64 ((rd_T51 l0 x4_1).f0.f1), .int .i64 ((rd_T51 l0 x4_1).f0.f2)], .agg #[.int .i64 ((rd_T51 x3_2 (ji10)).f0.f0), .int .i64 ((rd_T51 x3_2 (ji10)).f0.f1), .int .i64 ((rd_T51 x3_2 (ji10)).f0.f2)]] (by rfl) rfl rfl (by (try simp only [List.map_toArray, List.map_cons, List.map_nil]); first | done | (simp only [hji10]; rfl) | rfl | (simp only [List.length_drop, List.length_take]; rfl)) ?_
                                with_reducible refine (hedgerowref09_Before.calls ((rd_T51 l0 x4_1).f0.f0) ((rd_T51 l0 x4_1).f0.f1) ((rd_T51 l0 x4_1).f0.f2) ((rd_T51 x3_2 (ji10)).f0.f0) ((rd_T51 x3_2 (ji10)).f0.f1) ((rd_T51 x3_2 (ji10)).f0.f2) true _ A13.out).mono ?_
                                rintro e w20 ⟨rfl, hb⟩
                                have HS11_ := (hb.cell (World.block_lt_of_cell? _ _ (hHeld.2.2.2.2.2.2.2.2.2.2.2.1))).trans (hHeld.2.2.2.2.2.2.2.2.2.2.2.1)
                                have HS12_ := (hb.cell (World.block_lt_of_cell? _ _ (hHeld.2.2.2.2.2.2.2.2.2.2.2.2.1))).trans (hHeld.2.2.2.2.2.2.2.2.2.2.2.2.1)
                                have HS13_ := (hb.cell (World.block_lt_of_cell? _ _ (hHeld.2.2.2.2.2.2.2.2.2.2.2.2.2.1))).trans (hHeld.2.2.2.2.2.2.2.2.2.2.2.2.2.1)
                                have HS14_ := (hb.cell (World.block_lt_of_cell? _ _ (hHeld.2.2.2.2.2.2.2.2.2.2.2.2.2.2.1))).trans (hHeld.2.2.2.2.2.2.2.2.2.2.2.2.2.2.1)
                                have HS15_ := (hb.cell (World.block_lt_of_cell? _ _ (hHeld.2.2.2.2.2.2.2.2.2.2.2.2.2.2.2.1))).trans (hHeld.2.2.2.2.2.2.2.2.2.2.2.2.2.2.2.1)
                                have HS16_ := (hb.cell (World.block_lt_of_cell? _ _ (hHeld.2.2.2.2.2.2.2.2.2.2.2.2.2.2.2.2.1))).trans (hHeld.2.2.2.2.2.2.2.2.2.2.2.2.2.2.2.2.1)
                                have HS17_ := (hb.cell (World.block_lt_of_cell? _ _ (hHeld.2.2.2.2.2.2.2.2.2.2.2.2.2.2.2.2.2.1))).trans (hHeld.2.2.2.2.2.2.2.2.2.2.2.2.2.2.2.2.2.1)
                                have HS18_ := (hb.cell (World.block_lt_of_cell? _ _ (hHeld.2.2.2.2.2.2.2.2.2.2.2.2.2.2.2.2.2.2.1))).trans (hHeld.2.2.2.2.2.2.2.2.2.2.2.2.2.2.2.2.2.2.1)
                                have HS19_ := (hb.cell (World.block_lt_of_cell? _ _ (hHeld.2.2.2.2.2.2.2.2.2.2.2.2.2.2.2.2.2.2.2.1))).trans (hHeld.2.2.2.2.2.2.2.2.2.2.2.2.2.2.2.2.2.2.2.1)
                                have HS20_ := (hb.cell (World.block_lt_of_cell? _ _ (hHeld.2.2.2.2.2.2.2.2.2.2.2.2.2.2.2.2.2.2.2.2.1))).trans (hHeld.2.2.2.2.2.2.2.2.2.2.2.2.2.2.2.2.2.2.2.2.1)
                                have HS21_ := (hb.cell (World.block_lt_of_cell? _ _ (hHeld.2.2.2.2.2.2.2.2.2.2.2.2.2.2.2.2.2.2.2.2.2))).trans (hHeld.2.2.2.2.2.2.2.2.2.2.2.2.2.2.2.2.2.2.2.2.2)
                                refine ⟨_, rfl, ?_⟩
                                have n0_ := Aside0.mk (Kd.R_below (by (with_reducible repeat (first | apply Kd.R_alloc | apply Kd.R_drewN | apply Kd.R_drew)); exact HO_3.out) hb)
                                have n1_ := Aside0.mk (below_step (by repeat (first | (with_reducible first | exact HB.out | apply below_alloc | apply pw_below_drewN | apply below_drew1) | exact HB.out)) hb)
                                clear HO_3
                                clear HB
                                have HO_3 := n0_
                                have HB := n1_
                                clear n0_ n1_
                                (try clear hb)
                                (try clear hb2)
                                (try clear hk)
                                (try clear hi)
                                refine hK.out _ _ ⟨((HB.out.cell (World.block_lt_of_cell? w _ hw127_0)).trans hw127_0), ((HB.out.cell (World.block_lt_of_cell? w _ hw127_1)).trans hw127_1), ((HB.out.cell (World.block_lt_of_cell? w _ hw127_2)).trans hw127_2), ((HB.out.cell (World.block_lt_of_cell? w _ hw127_3)).trans hw127_3), ((HB.out.cell (World.block_lt_of_cell? w _ hw127_4)).trans hw127_4), ((HB.out.cell (World.block_lt_of_cell? w _ hw127_5)).trans hw127_5), ((HB.out.cell (World.block_lt_of_cell? w _ hw127_6)).trans hw127_6), ((HB.out.cell (World.block_lt_of_cell? w _ hw127_7)).trans hw127_7), ((HB.out.cell (World.block_lt_of_cell? w _ hw127_8)).trans hw127_8), ((HB.out.cell (World.block_lt_of_cell? w _ hw127_9)).trans hw127_9), ((HB.out.cell (World.block_lt_of_cell? w _ hw127_10)).trans hw127_10), HS11_, HS12_, HS13_, HS14_, HS15_, HS16_, HS17_, HS18_, HS19_, HS20_, HS21_⟩ (fun hHeld => ?_)
                                clear hK K
                                refine norm_ (a' := ?_) ?_ ?_
                                rotate_left
                                · show Act.put _ (some 35) _ = _
                                  simp only [Act.put, List.setIfInBounds_toArray, List.set_cons_zero, List.set_cons_succ, i64_w, i32_w]
                                  rfl
                                refine pure_ (i := 15) (N := some 36) (v := ?_) (a' := ?_) #[true, true, true, true, true, true, true, true, true, true, true, true, true, true, true, true] rfl rfl (any_of HT_.out (by kernel_rfl)) (fun _ _ _ h => h) (Or.inl ⟨by rfl, ?_⟩) ?_ ?_
                                rotate_left
                                · intro w'
                                  go_simp
                                  with_reducible rfl
                                rotate_left
                                · simp only [Act.put, List.setIfInBounds_toArray, List.set_cons_zero, List.set_cons_succ, i64_w, i32_w]
                                  rfl
                                refine done_ (done_of HT_.out (by kernel_rfl)) ?_
                                have p130 : 0 ≤ ((ji10) : Int) := of_decide_eq_true (by first | (with_reducible assumption) | assumption)
                                have q130 : (ji10) < (x3_2.length : Int) := of_decide_eq_true (by first | (with_reducible assumption) | assumption)
                                obtain ⟨ad130, e130, hx130_0, hx130_1, hx130_2, hx130_3, hx130_4, hx130_5, hx130_6, hx130_7, hx130_8, hx130_9, hx130_10⟩ := at_T51 (Kd.R_reads' HO_3.out).2.2 (ji10) p130 q130
                                obtain rfl : ad128 = ad130 := (by injection e130)
                                replace p130 := eq_true p130
                                replace q130 := eq_true q130
                                have p17 : 0 ≤ (x5_2 : Int) := of_decide_eq_true (by first | (with_reducible assumption) | assumption)
                                have q17 : (x5_2 : Int) < ((x3_2.length : Int) : Int) := of_decide_eq_true (by first | (with_reducible assumption) | assumption)
                                obtain ⟨go17, co17, eo17, gb17, gl17, cl17, HG17⟩ := Kd.R_form HO_3.out (by omega)
                                (first | cases eo17 | (injection eo17 with ea_ en_ ec_; (first | subst ea_ | (injection ea_ with ea_; subst ea_)); subst ec_; clear en_))
                                have GB17 := Aside0.mk gb17
                                have GG17 := Aside0.mk HG17
                                clear gb17 gl17 HG17
                                (first | simp only [add_plain] at hx128_0 | skip)
                                (first | simp only [add_plain] at hx128_1 | skip)
                                (first | simp only [add_plain] at hx128_2 | skip)
                                (first | simp only [add_plain] at hx128_3 | skip)
                                (first | simp only [add_plain] at hx128_4 | skip)
                                (first | simp only [add_plain] at hx128_5 | skip)
                                (first | simp only [add_plain] at hx128_6 | skip)
                                (first | simp only [add_plain] at hx128_7 | skip)
                                (first | simp only [add_plain] at hx128_8 | skip)
                                (first | simp only [add_plain] at hx128_9 | skip)
                                (first | simp only [add_plain] at hx128_10 | skip)
                                (first | simp only [add_plain] at hx130_0 | skip)
                                (first | simp only [add_plain] at hx130_1 | skip)
                                (first | simp only [add_plain] at hx130_2 | skip)
                                (first | simp only [add_plain] at hx130_3 | skip)
                                (first | simp only [add_plain] at hx130_4 | skip)
                                (first | simp only [add_plain] at hx130_5 | skip)
                                (first | simp only [add_plain] at hx130_6 | skip)
                                (first | simp only [add_plain] at hx130_7 | skip)
                                (first | simp only [add_plain] at hx130_8 | skip)
                                (first | simp only [add_plain] at hx130_9 | skip)
                                (first | simp only [add_plain] at hx130_10 | skip)
                                obtain ⟨ce17, hcl17, hM17, hcc17, hfr17⟩ := Kd.R_elem HO_3.out z51 (x5_2 : Int) p17 q17
                                obtain rfl := k51_openM hM17
                                have hx17_0 : w20.cell? ⟨go17, (x5_2 : Int).toNat * 11, none⟩ = some (.int .i64 ((rd_T51 x3_2 x5_2).f0.f0)) := hcc17 0 _ rfl
                                have hx17_1 : w20.cell? ⟨go17, (x5_2 : Int).toNat * 11 + 1, none⟩ = some (.int .i64 ((rd_T51 x3_2 x5_2).f0.f1)) := hcc17 1 _ rfl
                                have hx17_2 : w20.cell? ⟨go17, (x5_2 : Int).toNat * 11 + 2, none⟩ = some (.int .i64 ((rd_T51 x3_2 x5_2).f0.f2)) := hcc17 2 _ rfl
                                have hx17_3 : w20.cell? ⟨go17, (x5_2 : Int).toNat * 11 + 3, none⟩ = some (.int .i64 ((rd_T51 x3_2 x5_2).f1)) := hcc17 3 _ rfl
                                have hx17_4 : w20.cell? ⟨go17, (x5_2 : Int).toNat * 11 + 4, none⟩ = some (.int .i64 ((rd_T51 x3_2 x5_2).f2)) := hcc17 4 _ rfl
                                have hx17_5 : w20.cell? ⟨go17, (x5_2 : Int).toNat * 11 + 5, none⟩ = some (.int .i64 ((rd_T51 x3_2 x5_2).f3)) := hcc17 5 _ rfl
                                have hx17_6 : w20.cell? ⟨go17, (x5_2 : Int).toNat * 11 + 6, none⟩ = some (.int .i64 ((rd_T51 x3_2 x5_2).f4)) := hcc17 6 _ rfl
                                have hx17_7 : w20.cell? ⟨go17, (x5_2 : Int).toNat * 11 + 7, none⟩ = some (.int .i64 ((rd_T51 x3_2 x5_2).f5)) := hcc17 7 _ rfl
                                have hx17_8 : w20.cell? ⟨go17, (x5_2 : Int).toNat * 11 + 8, none⟩ = some (.int .i64 ((rd_T51 x3_2 x5_2).f6)) := hcc17 8 _ rfl
                                have hx17_9 : w20.cell? ⟨go17, (x5_2 : Int).toNat * 11 + 9, none⟩ = some (.int .i64 ((rd_T51 x3_2 x5_2).f7)) := hcc17 9 _ rfl
                                have hx17_10 : w20.cell? ⟨go17, (x5_2 : Int).toNat * 11 + 10, none⟩ = some (.int .i64 ((rd_T51 x3_2 x5_2).f8)) := hcc17 10 _ rfl
                                have hf17_0 : w20.frozen? ⟨go17, (x5_2 : Int).toNat * 11, none⟩ = false := hfr17 0
                                have hf17_1 : w20.frozen? ⟨go17, (x5_2 : Int).toNat * 11 + 1, none⟩ = false := hfr17 1
                                have hf17_2 : w20.frozen? ⟨go17, (x5_2 : Int).toNat * 11 + 2, none⟩ = false := hfr17 2
                                have hf17_3 : w20.frozen? ⟨go17, (x5_2 : Int).toNat * 11 + 3, none⟩ = false := hfr17 3
                                have hf17_4 : w20.frozen? ⟨go17, (x5_2 : Int).toNat * 11 + 4, none⟩ = false := hfr17 4
                                have hf17_5 : w20.frozen? ⟨go17, (x5_2 : Int).toNat * 11 + 5, none⟩ = false := hfr17 5
                                have hf17_6 : w20.frozen? ⟨go17, (x5_2 : Int).toNat * 11 + 6, none⟩ = false := hfr17 6
                                have hf17_7 : w20.frozen? ⟨go17, (x5_2 : Int).toNat * 11 + 7, none⟩ = false := hfr17 7
                                have hf17_8 : w20.frozen? ⟨go17, (x5_2 : Int).toNat * 11 + 8, none⟩ = false := hfr17 8
                                have hf17_9 : w20.frozen? ⟨go17, (x5_2 : Int).toNat * 11 + 9, none⟩ = false := hfr17 9
                                have hf17_10 : w20.frozen? ⟨go17, (x5_2 : Int).toNat * 11 + 10, none⟩ = false := hfr17 10
                                clear hcl17 hcc17 hfr17 hM17
                                replace p17 := eq_true p17
                                replace q17 := eq_true q17
                                have HX21 := Aside0.mk (show Kd.R k51 51 w20 w.heap.size (fun _ => True) (.slice (some ⟨go17, 0, none⟩) x3_2.length co19) x3_2 from (by (with_reducible repeat (first | apply Kd.R_alloc | apply Kd.R_drewN | apply Kd.R_drew)); exact HO_3.out))
                                obtain ⟨ce21, hcl21, hM21, hcc21, hfr21⟩ := Kd.R_elem HX21.out z51 (x5_2 : Int) (of_decide_eq_true (by first | (with_reducible assumption) | assumption)) (by have h_ : (x5_2 : Int) < ((x3_2.length : Int) : Int) := of_decide_eq_true (by first | (with_reducible assumption) | assumption); first | exact h_ | (have e_ := (Kd.R_reads' HO_3.out).1; omega) | simpa using h_)
                                obtain rfl := k51_openM hM21
                                have HP21 := Kd.R_seg HX21.out (x5_2 : Int) (of_decide_eq_true (by first | (with_reducible assumption) | assumption)) (by have h_ : (x5_2 : Int) < ((x3_2.length : Int) : Int) := of_decide_eq_true (by first | (with_reducible assumption) | assumption); first | exact h_ | (have e_ := (Kd.R_reads' HO_3.out).1; omega) | simpa using h_) (seg := [.int .i64 ((rd_T51 x3_2 (ji10)).f0.f0), .int .i64 ((rd_T51 x3_2 (ji10)).f0.f1), .int .i64 ((rd_T51 x3_2 (ji10)).f0.f2), .int .i64 ((rd_T51 x3_2 (ji10)).f1), .int .i64 ((rd_T51 x3_2 (ji10)).f2), .int .i64 ((rd_T51 x3_2 (ji10)).f3), .int .i64 ((rd_T51 x3_2 (ji10)).f4), .int .i64 ((rd_T51 x3_2 (ji10)).f5), .int .i64 ((rd_T51 x3_2 (ji10)).f6), .int .i64 ((rd_T51 x3_2 (ji10)).f7), .int .i64 ((rd_T51 x3_2 (ji10)).f8)]) (j := 0) hcl21 hcc21 (show 11 ≤ 11 from by decide) (x' := (⟨(⟨(rd_T51 x3_2 (ji10)).f0.f0, (rd_T51 x3_2 (ji10)).f0.f1, (rd_T51 x3_2 (ji10)).f0.f2⟩ : S48), (rd_T51 x3_2 (ji10)).f1, (rd_T51 x3_2 (ji10)).f2, (rd_T51 x3_2 (ji10)).f3, (rd_T51 x3_2 (ji10)).f4, (rd_T51 x3_2 (ji10)).f5, (rd_T51 x3_2 (ji10)).f6, (rd_T51 x3_2 (ji10)).f7, (rd_T51 x3_2 (ji10)).f8⟩ : S51)) (k51_mkM _ _ _ (⟨(⟨(rd_T51 x3_2 (ji10)).f0.f0, (rd_T51 x3_2 (ji10)).f0.f1, (rd_T51 x3_2 (ji10)).f0.f2⟩ : S48), (rd_T51 x3_2 (ji10)).f1, (rd_T51 x3_2 (ji10)).f2, (rd_T51 x3_2 (ji10)).f3, (rd_T51 x3_2 (ji10)).f4, (rd_T51 x3_2 (ji10)).f5, (rd_T51 x3_2 (ji10)).f6, (rd_T51 x3_2 (ji10)).f7, (rd_T51 x3_2 (ji10)).f8⟩ : S51) ) (fun _ hk => hk)
                                have hx21_0 := hcc21 0 _ rfl
                                (try simp only [show (k51).sz = 11 from rfl, Nat.mul_one, Nat.add_zero] at hx21_0)
                                have hf21_0 := hfr21 0
                                (try simp only [show (k51).sz = 11 from rfl, Nat.mul_one, Nat.add_zero] at hf21_0)
                                have hx21_1 := hcc21 1 _ rfl
                                (try simp only [show (k51).sz = 11 from rfl, Nat.mul_one, Nat.add_zero] at hx21_1)
                                have hf21_1 := hfr21 1
                                (try simp only [show (k51).sz = 11 from rfl, Nat.mul_one, Nat.add_zero] at hf21_1)
                                have hx21_2 := hcc21 2 _ rfl
                                (try simp only [show (k51).sz = 11 from rfl, Nat.mul_one, Nat.add_zero] at hx21_2)
                                have hf21_2 := hfr21 2
                                (try simp only [show (k51).sz = 11 from rfl, Nat.mul_one, Nat.add_zero] at hf21_2)
                                have hx21_3 := hcc21 3 _ rfl
                                (try simp only [show (k51).sz = 11 from rfl, Nat.mul_one, Nat.add_zero] at hx21_3)
                                have hf21_3 := hfr21 3
                                (try simp only [show (k51).sz = 11 from rfl, Nat.mul_one, Nat.add_zero] at hf21_3)
                                have hx21_4 := hcc21 4 _ rfl
                                (try simp only [show (k51).sz = 11 from rfl, Nat.mul_one, Nat.add_zero] at hx21_4)
                                have hf21_4 := hfr21 4
                                (try simp only [show (k51).sz = 11 from rfl, Nat.mul_one, Nat.add_zero] at hf21_4)
                                have hx21_5 := hcc21 5 _ rfl
                                (try simp only [show (k51).sz = 11 from rfl, Nat.mul_one, Nat.add_zero] at hx21_5)
                                have hf21_5 := hfr21 5
                                (try simp only [show (k51).sz = 11 from rfl, Nat.mul_one, Nat.add_zero] at hf21_5)
                                have hx21_6 := hcc21 6 _ rfl
                                (try simp only [show (k51).sz = 11 from rfl, Nat.mul_one, Nat.add_zero] at hx21_6)
                                have hf21_6 := hfr21 6
                                (try simp only [show (k51).sz = 11 from rfl, Nat.mul_one, Nat.add_zero] at hf21_6)
                                have hx21_7 := hcc21 7 _ rfl
                                (try simp only [show (k51).sz = 11 from rfl, Nat.mul_one, Nat.add_zero] at hx21_7)
                                have hf21_7 := hfr21 7
                                (try simp only [show (k51).sz = 11 from rfl, Nat.mul_one, Nat.add_zero] at hf21_7)
                                have hx21_8 := hcc21 8 _ rfl
                                (try simp only [show (k51).sz = 11 from rfl, Nat.mul_one, Nat.add_zero] at hx21_8)
                                have hf21_8 := hfr21 8
                                (try simp only [show (k51).sz = 11 from rfl, Nat.mul_one, Nat.add_zero] at hf21_8)
                                have hx21_9 := hcc21 9 _ rfl
                                (try simp only [show (k51).sz = 11 from rfl, Nat.mul_one, Nat.add_zero] at hx21_9)
                                have hf21_9 := hfr21 9
                                (try simp only [show (k51).sz = 11 from rfl, Nat.mul_one, Nat.add_zero] at hf21_9)
                                have hx21_10 := hcc21 10 _ rfl
                                (try simp only [show (k51).sz = 11 from rfl, Nat.mul_one, Nat.add_zero] at hx21_10)
                                have hf21_10 := hfr21 10
                                (try simp only [show (k51).sz = 11 from rfl, Nat.mul_one, Nat.add_zero] at hf21_10)
                                clear hcl21 hcc21 hfr21 hM21
                                try go_wp2_with (first | ((with_reducible refine gate_store (t := 51) (p := 44) rfl ?_); refine store_event (t := 51) (p := 44) (v := ?vo_w22) (w1 := (((((((((((w20.setCell ⟨go17, (x5_2 : Int).toNat * 11, none⟩ (.int .i64 ((rd_T51 x3_2 (ji10)).f0.f0))).setCell ⟨go17, (x5_2 : Int).toNat * 11 + 1, none⟩ (.int .i64 ((rd_T51 x3_2 (ji10)).f0.f1))).setCell ⟨go17, (x5_2 : Int).toNat * 11 + 2, none⟩ (.int .i64 ((rd_T51 x3_2 (ji10)).f0.f2))).setCell ⟨go17, (x5_2 : Int).toNat * 11 + 3, none⟩ (.int .i64 ((rd_T51 x3_2 (ji10)).f1))).setCell ⟨go17, (x5_2 : Int).toNat * 11 + 4, none⟩ (.int .i64 ((rd_T51 x3_2 (ji10)).f2))).setCell ⟨go17, (x5_2 : Int).toNat * 11 + 5, none⟩ (.int .i64 ((rd_T51 x3_2 (ji10)).f3))).setCell ⟨go17, (x5_2 : Int).toNat * 11 + 6, none⟩ (.int .i64 ((rd_T51 x3_2 (ji10)).f4))).setCell ⟨go17, (x5_2 : Int).toNat * 11 + 7, none⟩ (.int .i64 ((rd_T51 x3_2 (ji10)).f5))).setCell ⟨go17, (x5_2 : Int).toNat * 11 + 8, none⟩ (.int .i64 ((rd_T51 x3_2 (ji10)).f6))).setCell ⟨go17, (x5_2 : Int).toNat * 11 + 9, none⟩ (.int .i64 ((rd_T51 x3_2 (ji10)).f7))).setCell ⟨go17, (x5_2 : Int).toNat * 11 + 10, none⟩ (.int .i64 ((rd_T51 x3_2 (ji10)).f8)))) ?hg ?ho ?hn ?hr ?_; (case ho => rfl); (case hg => rfl); (case hn => rfl); (case hr => first | (go_simp; done) | (go_simp; rfl)); intro w22 hw; have hg : w20.grownBy w22 (some go17) := (by rw [hw]; exact HP21.2); have hp_ : Kd.R k51 51 w22 w.heap.size (fun _ => True) (.slice (some ⟨go17, 0, none⟩) x3_2.length co19) y131 := (by rw [hw, Ny131.out]; exact HP21.1); clear HP21; have n0_ := Aside0.mk (hp_); have n1_ := Aside0.mk ((by rw [hw]; exact below_set (below_set (below_set (below_set (below_set (below_set (below_set (below_set (below_set (below_set (below_set (HB.out) GB17.out) GB17.out) GB17.out) GB17.out) GB17.out) GB17.out) GB17.out) GB17.out) GB17.out) GB17.out) GB17.out : Below w.heap.size w w22)); clear HO_3; clear HB; have HO_3 := n0_; have HB := n1_; clear n0_ n1_; clear hg hw hp_))
                                go_roundg k2
                                case measure => have := HK1.out; have := HK2.out; omega
                                case rel => exact ⟨(y131), (ji10), (by first | rfl | (simp; done) | (simp only [← hji10] <;> (first | rfl | simp)) | (simp [*]; done)), H', ⟨by have := HK1.out; have := HK2.out; omega⟩, ⟨by (with_reducible repeat (first | apply Kd.R_alloc | apply Kd.R_drewN | apply Kd.R_drew)); exact HO_3.out⟩, ⟨by repeat (first | (with_reducible first | exact HB.out | apply below_alloc | apply pw_below_drewN | apply below_drew1) | exact HB.out)⟩⟩
                              · rw [if_neg c16] at H
                                exact absurd H (by simp)
                            · rw [if_neg c15] at H
                              exact absurd H (by simp)
                          · replace c14 := Bool.eq_false_iff.mpr c14
                            subst c14
                            have H1 : (if 0 ≤ x5_2 then (if x5_2 < (x3_2.length : Int) then (hedgerowref09_Sorted.l0 k2 l0 (x3_2.set (x5_2 : Int).toNat (⟨(⟨(rd_T51 l0 x4_1).f0.f0, (rd_T51 l0 x4_1).f0.f1, (rd_T51 l0 x4_1).f0.f2⟩ : S48), (rd_T51 l0 x4_1).f1, (rd_T51 l0 x4_1).f2, (rd_T51 l0 x4_1).f3, (rd_T51 l0 x4_1).f4, (rd_T51 l0 x4_1).f5, (rd_T51 l0 x4_1).f6, (rd_T51 l0 x4_1).f7, (rd_T51 l0 x4_1).f8⟩ : S51)) (wrap64 (x4_1 + 1))) else (none)) else (none)) = some r := by rw [if_neg (show ¬ (false = true) by decide)] at H; exact H
                            clear H
                            have H := H1
                            clear H1
                            by_cases c23 : 0 ≤ x5_2
                            · rw [if_pos c23] at H
                              have c23b0 : decide (0 ≤ x5_2) = true := decide_eq_true c23
                              clear c23
                              by_cases c24 : x5_2 < (x3_2.length : Int)
                              · rw [if_pos c24] at H
                                have c24b0 : decide (x5_2 < (x3_2.length : Int)) = true := decide_eq_true c24
                                clear c24
                                obtain ⟨y133, hy133⟩ : ∃ y_ : List (S51), y_ = (x3_2.set (x5_2 : Int).toNat (⟨(⟨(rd_T51 l0 x4_1).f0.f0, (rd_T51 l0 x4_1).f0.f1, (rd_T51 l0 x4_1).f0.f2⟩ : S48), (rd_T51 l0 x4_1).f1, (rd_T51 l0 x4_1).f2, (rd_T51 l0 x4_1).f3, (rd_T51 l0 x4_1).f4, (rd_T51 l0 x4_1).f5, (rd_T51 l0 x4_1).f6, (rd_T51 l0 x4_1).f7, (rd_T51 l0 x4_1).f8⟩ : S51)) := ⟨_, rfl⟩
                                replace H : (hedgerowref09_Sorted.l0 k2 l0 y133 (wrap64 (x4_1 + 1))) = some r := by first | (rw [hy133]; with_reducible exact H) | (have H2_ := (Option.bind_some _ _).symm.trans H; rw [hy133]; with_reducible exact H2_) | (have H2_ := (Option.bind_some _ _).symm.trans H; with_reducible exact H2_) | with_reducible exact H | (rw [hy133]; exact H) | exact H
                                have Ny133 := Aside0.mk hy133
                                clear hy133
                                have H' := Aside0.mk H
                                clear H
                                try go_wp2
                                have n0_ := Aside0.mk (Kd.R_drew HO_3.out)
                                have n1_ := Aside0.mk (below_drew1 HB.out)
                                clear HO_3
                                clear HB
                                have HO_3 := n0_
                                have HB := n1_
                                clear n0_ n1_
                                have p127 : 0 ≤ (x4_1 : Int) := of_decide_eq_true (by first | (with_reducible assumption) | assumption)
                                have q127 : x4_1 < (l0.length : Int) := of_decide_eq_true (by first | (with_reducible assumption) | assumption)
                                obtain ⟨ad127, e127, hx127_0, hx127_1, hx127_2, hx127_3, hx127_4, hx127_5, hx127_6, hx127_7, hx127_8, hx127_9, hx127_10⟩ := at_T51 HR0.out x4_1 p127 q127
                                have hw127_10 := hx127_10
                                have hw127_9 := hx127_9
                                have hw127_8 := hx127_8
                                have hw127_7 := hx127_7
                                have hw127_6 := hx127_6
                                have hw127_5 := hx127_5
                                have hw127_4 := hx127_4
                                have hw127_3 := hx127_3
                                have hw127_2 := hx127_2
                                have hw127_1 := hx127_1
                                have hw127_0 := hx127_0
                                obtain rfl : ad123 = ad127 := (by injection e127)
                                replace hx127_0 := (HB.out.cell (World.block_lt_of_cell? w _ hx127_0)).trans hx127_0
                                replace hx127_1 := (HB.out.cell (World.block_lt_of_cell? w _ hx127_1)).trans hx127_1
                                replace hx127_2 := (HB.out.cell (World.block_lt_of_cell? w _ hx127_2)).trans hx127_2
                                replace hx127_3 := (HB.out.cell (World.block_lt_of_cell? w _ hx127_3)).trans hx127_3
                                replace hx127_4 := (HB.out.cell (World.block_lt_of_cell? w _ hx127_4)).trans hx127_4
                                replace hx127_5 := (HB.out.cell (World.block_lt_of_cell? w _ hx127_5)).trans hx127_5
                                replace hx127_6 := (HB.out.cell (World.block_lt_of_cell? w _ hx127_6)).trans hx127_6
                                replace hx127_7 := (HB.out.cell (World.block_lt_of_cell? w _ hx127_7)).trans hx127_7
                                replace hx127_8 := (HB.out.cell (World.block_lt_of_cell? w _ hx127_8)).trans hx127_8
                                replace hx127_9 := (HB.out.cell (World.block_lt_of_cell? w _ hx127_9)).trans hx127_9
                                replace hx127_10 := (HB.out.cell (World.block_lt_of_cell? w _ hx127_10)).trans hx127_10
                                replace p127 := eq_true p127
                                replace q127 := eq_true q127
                                obtain ⟨Ao27, co27, eo27⟩ := Kd.R_slice HO_3.out
                                (first | subst eo27 | (injection eo27 with f1_ f2_ f3_; have f4_ := f1_.symm; have f5_ := f3_.symm; clear f1_ f2_ f3_; subst f4_; subst f5_))
                                have p128 : 0 ≤ ((ji10) : Int) := of_decide_eq_true (by first | (with_reducible assumption) | assumption)
                                have q128 : (ji10) < (x3_2.length : Int) := of_decide_eq_true (by first | (with_reducible assumption) | assumption)
                                obtain ⟨ad128, e128, hx128_0, hx128_1, hx128_2, hx128_3, hx128_4, hx128_5, hx128_6, hx128_7, hx128_8, hx128_9, hx128_10⟩ := at_T51 (Kd.R_reads' HO_3.out).2.2 (ji10) p128 q128
                                cases e128
                                replace p128 := eq_true p128
                                replace q128 := eq_true q128
                                refine start_ (n := 16) (S := fun w' => w'.cell? (ad123.add ((x4_1).toNat * 11)) = some (.int .i64 ((rd_T51 l0 x4_1).f0.f0)) ∧ w'.cell? ⟨(ad123.add ((x4_1).toNat * 11)).block, (ad123.add ((x4_1).toNat * 11)).off + 1, none⟩ = some (.int .i64 ((rd_T51 l0 x4_1).f0.f1)) ∧ w'.cell? ⟨(ad123.add ((x4_1).toNat * 11)).block, (ad123.add ((x4_1).toNat * 11)).off + 2, none⟩ = some (.int .i64 ((rd_T51 l0 x4_1).f0.f2)) ∧ w'.cell? ⟨(ad123.add ((x4_1).toNat * 11)).block, (ad123.add ((x4_1).toNat * 11)).off + 3, none⟩ = some (.int .i64 ((rd_T51 l0 x4_1).f1)) ∧ w'.cell? ⟨(ad123.add ((x4_1).toNat * 11)).block, (ad123.add ((x4_1).toNat * 11)).off + 4, none⟩ = some (.int .i64 ((rd_T51 l0 x4_1).f2)) ∧ w'.cell? ⟨(ad123.add ((x4_1).toNat * 11)).block, (ad123.add ((x4_1).toNat * 11)).off + 5, none⟩ = some (.int .i64 ((rd_T51 l0 x4_1).f3)) ∧ w'.cell? ⟨(ad123.add ((x4_1).toNat * 11)).block, (ad123.add ((x4_1).toNat * 11)).off + 6, none⟩ = some (.int .i64 ((rd_T51 l0 x4_1).f4)) ∧ w'.cell? ⟨(ad123.add ((x4_1).toNat * 11)).block, (ad123.add ((x4_1).toNat * 11)).off + 7, none⟩ = some (.int .i64 ((rd_T51 l0 x4_1).f5)) ∧ w'.cell? ⟨(ad123.add ((x4_1).toNat * 11)).block, (ad123.add ((x4_1).toNat * 11)).off + 8, none⟩ = some (.int .i64 ((rd_T51 l0 x4_1).f6)) ∧ w'.cell? ⟨(ad123.add ((x4_1).toNat * 11)).block, (ad123.add ((x4_1).toNat * 11)).off + 9, none⟩ = some (.int .i64 ((rd_T51 l0 x4_1).f7)) ∧ w'.cell? ⟨(ad123.add ((x4_1).toNat * 11)).block, (ad123.add ((x4_1).toNat * 11)).off + 10, none⟩ = some (.int .i64 ((rd_T51 l0 x4_1).f8)) ∧ w'.cell? (ad128.add (((ji10)).toNat * 11)) = some (.int .i64 ((rd_T51 x3_2 (ji10)).f0.f0)) ∧ w'.cell? ⟨(ad128.add (((ji10)).toNat * 11)).block, (ad128.add (((ji10)).toNat * 11)).off + 1, none⟩ = some (.int .i64 ((rd_T51 x3_2 (ji10)).f0.f1)) ∧ w'.cell? ⟨(ad128.add (((ji10)).toNat * 11)).block, (ad128.add (((ji10)).toNat * 11)).off + 2, none⟩ = some (.int .i64 ((rd_T51 x3_2 (ji10)).f0.f2)) ∧ w'.cell? ⟨(ad128.add (((ji10)).toNat * 11)).block, (ad128.add (((ji10)).toNat * 11)).off + 3, none⟩ = some (.int .i64 ((rd_T51 x3_2 (ji10)).f1)) ∧ w'.cell? ⟨(ad128.add (((ji10)).toNat * 11)).block, (ad128.add (((ji10)).toNat * 11)).off + 4, none⟩ = some (.int .i64 ((rd_T51 x3_2 (ji10)).f2)) ∧ w'.cell? ⟨(ad128.add (((ji10)).toNat * 11)).block, (ad128.add (((ji10)).toNat * 11)).off + 5, none⟩ = some (.int .i64 ((rd_T51 x3_2 (ji10)).f3)) ∧ w'.cell? ⟨(ad128.add (((ji10)).toNat * 11)).block, (ad128.add (((ji10)).toNat * 11)).off + 6, none⟩ = some (.int .i64 ((rd_T51 x3_2 (ji10)).f4)) ∧ w'.cell? ⟨(ad128.add (((ji10)).toNat * 11)).block, (ad128.add (((ji10)).toNat * 11)).off + 7, none⟩ = some (.int .i64 ((rd_T51 x3_2 (ji10)).f5)) ∧ w'.cell? ⟨(ad128.add (((ji10)).toNat * 11)).block, (ad128.add (((ji10)).toNat * 11)).off + 8, none⟩ = some (.int .i64 ((rd_T51 x3_2 (ji10)).f6)) ∧ w'.cell? ⟨(ad128.add (((ji10)).toNat * 11)).block, (ad128.add (((ji10)).toNat * 11)).off + 9, none⟩ = some (.int .i64 ((rd_T51 x3_2 (ji10)).f7)) ∧ w'.cell? ⟨(ad128.add (((ji10)).toNat * 11)).block, (ad128.add (((ji10)).toNat * 11)).off + 10, none⟩ = some (.int .i64 ((rd_T51 x3_2 (ji10)).f8))) (ds := []) #[false, false, false, false, false, false, false, false, false, false, false, false, false, false, false, false] (by kernel_rfl) rfl rfl ⟨((HB.out.cell (World.block_lt_of_cell? w _ hw127_0)).trans hw127_0), ((HB.out.cell (World.block_lt_of_cell? w _ hw127_1)).trans hw127_1), ((HB.out.cell (World.block_lt_of_cell? w _ hw127_2)).trans hw127_2), ((HB.out.cell (World.block_lt_of_cell? w _ hw127_3)).trans hw127_3), ((HB.out.cell (World.block_lt_of_cell? w _ hw127_4)).trans hw127_4), ((HB.out.cell (World.block_lt_of_cell? w _ hw127_5)).trans hw127_5), ((HB.out.cell (World.block_lt_of_cell? w _ hw127_6)).trans hw127_6), ((HB.out.cell (World.block_lt_of_cell? w _ hw127_7)).trans hw127_7), ((HB.out.cell (World.block_lt_of_cell? w _ hw127_8)).trans hw127_8), ((HB.out.cell (World.block_lt_of_cell? w _ hw127_9)).trans hw127_9), ((HB.out.cell (World.block_lt_of_cell? w _ hw127_10)).trans hw127_10), hx128_0, hx128_1, hx128_2, hx128_3, hx128_4, hx128_5, hx128_6, hx128_7, hx128_8, hx128_9, hx128_10⟩ (fun hHeld => ?_); refine with_tabW hedgerowref09_Sorted.tab7 hedgerowref09_Sorted.bits7 (fun HT_ HW_ => ?_)
                                generalize wr.drew = w26 at HO_3 HB hx127_0 hx127_1 hx127_10 hx127_2 hx127_3 hx127_4 hx127_5 hx127_6 hx127_7 hx127_8 hx127_9 hx128_0 hx128_1 hx128_10 hx128_2 hx128_3 hx128_4 hx128_5 hx128_6 hx128_7 hx128_8 hx128_9 hHeld ⊢
                                refine pure_ (i := 0) (N := some 21) (v := ?_) (a' := ?_) #[true, false, false, false, false, false, false, false, false, false, false, false, false, false, false, false] rfl rfl (any_of HT_.out (by kernel_rfl)) (fun _ _ _ h => h) (Or.inl ⟨by rfl, ?_⟩) ?_ ?_
                                rotate_left
                                · intro w'
                                  go_simp
                                  with_reducible rfl
                                rotate_left
                                · simp only [Act.put, List.setIfInBounds_toArray, List.set_cons_zero, List.set_cons_succ, i64_w, i32_w]
                                  rfl
                                refine pure_ (i := 1) (N := some 22) (v := ?_) (a' := ?_) #[true, true, false, false, false, false, false, false, false, false, false, false, false, false, false, false] rfl rfl (any_of HT_.out (by kernel_rfl)) (fun _ _ _ h => h) (Or.inl ⟨by rfl, ?_⟩) ?_ ?_
                                rotate_left
                                · intro w'
                                  go_simp
                                  with_reducible rfl
                                rotate_left
                                · simp only [Act.put, List.setIfInBounds_toArray, List.set_cons_zero, List.set_cons_succ, i64_w, i32_w]
                                  rfl
                                refine pure_ (i := 2) (N := some 23) (v := ?_) (a' := ?_) #[true, true, true, false, false, false, false, false, false, false, false, false, false, false, false, false] rfl rfl (any_of HT_.out (by kernel_rfl)) (fun _ _ _ h => h) (Or.inl ⟨by rfl, ?_⟩) ?_ ?_
                                rotate_left
                                · intro w'
                                  go_simp
                                  with_reducible rfl
                                rotate_left
                                · simp only [Act.put, List.setIfInBounds_toArray, List.set_cons_zero, List.set_cons_succ, i64_w, i32_w]
                                  rfl
                                refine pure_ (i := 3) (N := some 24) (v := ?_) (a' := ?_) #[true, true, true, true, false, false, false, false, false, false, false, false, false, false, false, false] rfl rfl (any_of HT_.out (by kernel_rfl)) (fun _ _ _ h => h) (Or.inl ⟨by rfl, ?_⟩) ?_ ?_
                                rotate_left
                                · intro w'
                                  go_simp
                                  with_reducible rfl
                                rotate_left
                                · simp only [Act.put, List.setIfInBounds_toArray, List.set_cons_zero, List.set_cons_succ, i64_w, i32_w]
                                  rfl
                                refine pure_ (i := 4) (N := some 25) (v := ?_) (a' := ?_) #[true, true, true, true, true, false, false, false, false, false, false, false, false, false, false, false] rfl rfl (any_of HT_.out (by kernel_rfl)) (fun _ _ _ h => h) (Or.inl ⟨by rfl, ?_⟩) ?_ ?_
                                rotate_left
                                · intro w'
                                  go_simp
                                  with_reducible rfl
                                rotate_left
                                · simp only [Act.put, List.setIfInBounds_toArray, List.set_cons_zero, List.set_cons_succ, i64_w, i32_w]
                                  rfl
                                refine pure_ (i := 5) (N := some 26) (v := ?_) (a' := ?_) #[true, true, true, true, true, true, false, false, false, false, false, false, false, false, false, false] rfl rfl (any_of HT_.out (by kernel_rfl)) (fun _ _ _ h => h) (Or.inl ⟨by rfl, ?_⟩) ?_ ?_
                                rotate_left
                                · intro w'
                                  go_simp
                                  with_reducible rfl
                                rotate_left
                                · simp only [Act.put, List.setIfInBounds_toArray, List.set_cons_zero, List.set_cons_succ, i64_w, i32_w]
                                  rfl
                                refine pure_ (i := 6) (N := some 27) (v := ?_) (a' := ?_) #[true, true, true, true, true, true, true, false, false, false, false, false, false, false, false, false] rfl rfl (any_of HT_.out (by kernel_rfl)) (fun _ _ _ h => h) (Or.inl ⟨by rfl, ?_⟩) ?_ ?_
                                rotate_left
                                · intro w'
                                  go_simp
                                  with_reducible rfl
                                rotate_left
                                · simp only [Act.put, List.setIfInBounds_toArray, List.set_cons_zero, List.set_cons_succ, i64_w, i32_w]
                                  rfl
                                refine pure_ (i := 8) (N := some 29) (v := ?_) (a' := ?_) #[true, true, true, true, true, true, true, false, true, false, false, false, false, false, false, false] rfl rfl (any_of HT_.out (by kernel_rfl)) (fun _ _ _ h => h) (Or.inl ⟨by rfl, ?_⟩) ?_ ?_
                                rotate_left
                                · intro w'
                                  go_simp
                                  with_reducible rfl
                                rotate_left
                                · simp only [Act.put, List.setIfInBounds_toArray, List.set_cons_zero, List.set_cons_succ, i64_w, i32_w]
                                  rfl
                                refine pure_ (i := 9) (N := some 30) (v := ?_) (a' := ?_) #[true, true, true, true, true, true, true, false, true, true, false, false, false, false, false, false] rfl rfl (any_of HT_.out (by kernel_rfl)) (fun _ _ _ h => h) (Or.inl ⟨by rfl, ?_⟩) ?_ ?_
                                rotate_left
                                · intro w'
                                  go_simp
                                  with_reducible rfl
                                rotate_left
                                · simp only [Act.put, List.setIfInBounds_toArray, List.set_cons_zero, List.set_cons_succ, i64_w, i32_w]
                                  rfl
                                refine pure_ (i := 10) (N := some 31) (v := ?_) (a' := ?_) #[true, true, true, true, true, true, true, false, true, true, true, false, false, false, false, false] rfl rfl (any_of HT_.out (by kernel_rfl)) (fun _ _ _ h => h) (Or.inl ⟨by rfl, ?_⟩) ?_ ?_
                                rotate_left
                                · intro w'
                                  go_simp
                                  with_reducible rfl
                                rotate_left
                                · simp only [Act.put, List.setIfInBounds_toArray, List.set_cons_zero, List.set_cons_succ, i64_w, i32_w]
                                  rfl
                                refine pure_ (i := 11) (N := some 32) (v := ?_) (a' := ?_) #[true, true, true, true, true, true, true, false, true, true, true, true, false, false, false, false] rfl rfl (any_of HT_.out (by kernel_rfl)) (fun _ _ _ h => h) (Or.inl ⟨by rfl, ?_⟩) ?_ ?_
                                rotate_left
                                · intro w'
                                  go_simp
                                  with_reducible rfl
                                rotate_left
                                · simp only [Act.put, List.setIfInBounds_toArray, List.set_cons_zero, List.set_cons_succ, i64_w, i32_w]
                                  rfl
                                refine pure_ (i := 12) (N := some 33) (v := ?_) (a' := ?_) #[true, true, true, true, true, true, true, false, true, true, true, true, true, false, false, false] rfl rfl (any_of HT_.out (by kernel_rfl)) (fun _ _ _ h => h) (Or.inl ⟨by rfl, ?_⟩) ?_ ?_
                                rotate_left
                                · intro w'
                                  go_simp
                                  with_reducible rfl
                                rotate_left
                                · simp only [Act.put, List.setIfInBounds_toArray, List.set_cons_zero, List.set_cons_succ, i64_w, i32_w]
                                  rfl
                                refine take_ (i := 7) (N := some 28) (v := ?_) (a' := ?_) #[true, true, true, true, true, true, true, true, true, true, true, true, true, false, false, false] rfl rfl (take_ofW HT_.out HW_.out (by kernel_rfl)) (fun _ _ _ h => h) (Or.inl ⟨by rfl, ?_⟩) hHeld ?_ ?_
                                rotate_left
                                · rintro w' ⟨s0, s1, s2, s3, s4, s5, s6, s7, s8, s9, s10, s11, s12, s13, s14, s15, s16, s17, s18, s19, s20, s21⟩
                                  go_simp
                                  with_reducible rfl
                                rotate_left
                                · simp only [Act.put, List.setIfInBounds_toArray, List.set_cons_zero, List.set_cons_succ, i64_w, i32_w]
                                  rfl
                                refine take_ (i := 13) (N := some 34) (v := ?_) (a' := ?_) #[true, true, true, true, true, true, true, true, true, true, true, true, true, true, false, false] rfl rfl (take_ofW HT_.out HW_.out (by kernel_rfl)) (fun _ _ _ h => h) (Or.inl ⟨by rfl, ?_⟩) hHeld ?_ ?_
                                rotate_left
                                · rintro w' ⟨s0, s1, s2, s3, s4, s5, s6, s7, s8, s9, s10, s11, s12, s13, s14, s15, s16, s17, s18, s19, s20, s21⟩
                                  go_simp
                                  with_reducible rfl
                                rotate_left
                                · simp only [Act.put, List.setIfInBounds_toArray, List.set_cons_zero, List.set_cons_succ, i64_w, i32_w]
                                  rfl
                                refine one_ (i := 14) (N := some 35) #[true, true, true, true, true, true, true, true, true, true, true, true, true, true, true, false] rfl rfl (one_of HT_.out (by kernel_rfl)) (by decide) (fun K hK => ?_)
                                refine goes_ Try.func65 (by kernel_rfl) rfl #[.agg #[.int .i64 ((rd_T51 l0 x4_1).f0.f0), .int .i64 ((rd_T51 l0 x4_1).f0.f1), .int .i64 ((rd_T51 l0 x4_1).f0.f2)], .agg #[.int .i64 ((rd_T51 x3_2 (ji10)).f0.f0), .int .i64 ((rd_T51 x3_2 (ji10)).f0.f1), .int .i64 ((rd_T51 x3_2 (ji10)).f0.f2)]] (by rfl) rfl rfl (by (try simp only [List.map_toArray, List.map_cons, List.map_nil]); first | done | (simp only [hji10]; rfl) | rfl | (simp only [List.length_drop, List.length_take]; rfl)) ?_
                                with_reducible refine (hedgerowref09_Before.calls ((rd_T51 l0 x4_1).f0.f0) ((rd_T51 l0 x4_1).f0.f1) ((rd_T51 l0 x4_1).f0.f2) ((rd_T51 x3_2 (ji10)).f0.f0) ((rd_T51 x3_2 (ji10)).f0.f1) ((rd_T51 x3_2 (ji10)).f0.f2) false _ A13.out).mono ?_
                                rintro e w28 ⟨rfl, hb⟩
                                have HS11_ := (hb.cell (World.block_lt_of_cell? _ _ (hHeld.2.2.2.2.2.2.2.2.2.2.2.1))).trans (hHeld.2.2.2.2.2.2.2.2.2.2.2.1)
                                have HS12_ := (hb.cell (World.block_lt_of_cell? _ _ (hHeld.2.2.2.2.2.2.2.2.2.2.2.2.1))).trans (hHeld.2.2.2.2.2.2.2.2.2.2.2.2.1)
                                have HS13_ := (hb.cell (World.block_lt_of_cell? _ _ (hHeld.2.2.2.2.2.2.2.2.2.2.2.2.2.1))).trans (hHeld.2.2.2.2.2.2.2.2.2.2.2.2.2.1)
                                have HS14_ := (hb.cell (World.block_lt_of_cell? _ _ (hHeld.2.2.2.2.2.2.2.2.2.2.2.2.2.2.1))).trans (hHeld.2.2.2.2.2.2.2.2.2.2.2.2.2.2.1)
                                have HS15_ := (hb.cell (World.block_lt_of_cell? _ _ (hHeld.2.2.2.2.2.2.2.2.2.2.2.2.2.2.2.1))).trans (hHeld.2.2.2.2.2.2.2.2.2.2.2.2.2.2.2.1)
                                have HS16_ := (hb.cell (World.block_lt_of_cell? _ _ (hHeld.2.2.2.2.2.2.2.2.2.2.2.2.2.2.2.2.1))).trans (hHeld.2.2.2.2.2.2.2.2.2.2.2.2.2.2.2.2.1)
                                have HS17_ := (hb.cell (World.block_lt_of_cell? _ _ (hHeld.2.2.2.2.2.2.2.2.2.2.2.2.2.2.2.2.2.1))).trans (hHeld.2.2.2.2.2.2.2.2.2.2.2.2.2.2.2.2.2.1)
                                have HS18_ := (hb.cell (World.block_lt_of_cell? _ _ (hHeld.2.2.2.2.2.2.2.2.2.2.2.2.2.2.2.2.2.2.1))).trans (hHeld.2.2.2.2.2.2.2.2.2.2.2.2.2.2.2.2.2.2.1)
                                have HS19_ := (hb.cell (World.block_lt_of_cell? _ _ (hHeld.2.2.2.2.2.2.2.2.2.2.2.2.2.2.2.2.2.2.2.1))).trans (hHeld.2.2.2.2.2.2.2.2.2.2.2.2.2.2.2.2.2.2.2.1)
                                have HS20_ := (hb.cell (World.block_lt_of_cell? _ _ (hHeld.2.2.2.2.2.2.2.2.2.2.2.2.2.2.2.2.2.2.2.2.1))).trans (hHeld.2.2.2.2.2.2.2.2.2.2.2.2.2.2.2.2.2.2.2.2.1)
                                have HS21_ := (hb.cell (World.block_lt_of_cell? _ _ (hHeld.2.2.2.2.2.2.2.2.2.2.2.2.2.2.2.2.2.2.2.2.2))).trans (hHeld.2.2.2.2.2.2.2.2.2.2.2.2.2.2.2.2.2.2.2.2.2)
                                refine ⟨_, rfl, ?_⟩
                                have n0_ := Aside0.mk (Kd.R_below (by (with_reducible repeat (first | apply Kd.R_alloc | apply Kd.R_drewN | apply Kd.R_drew)); exact HO_3.out) hb)
                                have n1_ := Aside0.mk (below_step (by repeat (first | (with_reducible first | exact HB.out | apply below_alloc | apply pw_below_drewN | apply below_drew1) | exact HB.out)) hb)
                                clear HO_3
                                clear HB
                                have HO_3 := n0_
                                have HB := n1_
                                clear n0_ n1_
                                (try clear hb)
                                (try clear hb2)
                                (try clear hk)
                                (try clear hi)
                                refine hK.out _ _ ⟨((HB.out.cell (World.block_lt_of_cell? w _ hw127_0)).trans hw127_0), ((HB.out.cell (World.block_lt_of_cell? w _ hw127_1)).trans hw127_1), ((HB.out.cell (World.block_lt_of_cell? w _ hw127_2)).trans hw127_2), ((HB.out.cell (World.block_lt_of_cell? w _ hw127_3)).trans hw127_3), ((HB.out.cell (World.block_lt_of_cell? w _ hw127_4)).trans hw127_4), ((HB.out.cell (World.block_lt_of_cell? w _ hw127_5)).trans hw127_5), ((HB.out.cell (World.block_lt_of_cell? w _ hw127_6)).trans hw127_6), ((HB.out.cell (World.block_lt_of_cell? w _ hw127_7)).trans hw127_7), ((HB.out.cell (World.block_lt_of_cell? w _ hw127_8)).trans hw127_8), ((HB.out.cell (World.block_lt_of_cell? w _ hw127_9)).trans hw127_9), ((HB.out.cell (World.block_lt_of_cell? w _ hw127_10)).trans hw127_10), HS11_, HS12_, HS13_, HS14_, HS15_, HS16_, HS17_, HS18_, HS19_, HS20_, HS21_⟩ (fun hHeld => ?_)
                                clear hK K
                                refine norm_ (a' := ?_) ?_ ?_
                                rotate_left
                                · show Act.put _ (some 35) _ = _
                                  simp only [Act.put, List.setIfInBounds_toArray, List.set_cons_zero, List.set_cons_succ, i64_w, i32_w]
                                  rfl
                                refine pure_ (i := 15) (N := some 36) (v := ?_) (a' := ?_) #[true, true, true, true, true, true, true, true, true, true, true, true, true, true, true, true] rfl rfl (any_of HT_.out (by kernel_rfl)) (fun _ _ _ h => h) (Or.inl ⟨by rfl, ?_⟩) ?_ ?_
                                rotate_left
                                · intro w'
                                  go_simp
                                  with_reducible rfl
                                rotate_left
                                · simp only [Act.put, List.setIfInBounds_toArray, List.set_cons_zero, List.set_cons_succ, i64_w, i32_w]
                                  rfl
                                refine done_ (done_of HT_.out (by kernel_rfl)) ?_
                                have p132 : 0 ≤ (x4_1 : Int) := of_decide_eq_true (by first | (with_reducible assumption) | assumption)
                                have q132 : x4_1 < (l0.length : Int) := of_decide_eq_true (by first | (with_reducible assumption) | assumption)
                                obtain ⟨ad132, e132, hx132_0, hx132_1, hx132_2, hx132_3, hx132_4, hx132_5, hx132_6, hx132_7, hx132_8, hx132_9, hx132_10⟩ := at_T51 HR0.out x4_1 p132 q132
                                obtain rfl : ad123 = ad132 := (by injection e132)
                                replace hx132_0 := (HB.out.cell (World.block_lt_of_cell? w _ hx132_0)).trans hx132_0
                                replace hx132_1 := (HB.out.cell (World.block_lt_of_cell? w _ hx132_1)).trans hx132_1
                                replace hx132_2 := (HB.out.cell (World.block_lt_of_cell? w _ hx132_2)).trans hx132_2
                                replace hx132_3 := (HB.out.cell (World.block_lt_of_cell? w _ hx132_3)).trans hx132_3
                                replace hx132_4 := (HB.out.cell (World.block_lt_of_cell? w _ hx132_4)).trans hx132_4
                                replace hx132_5 := (HB.out.cell (World.block_lt_of_cell? w _ hx132_5)).trans hx132_5
                                replace hx132_6 := (HB.out.cell (World.block_lt_of_cell? w _ hx132_6)).trans hx132_6
                                replace hx132_7 := (HB.out.cell (World.block_lt_of_cell? w _ hx132_7)).trans hx132_7
                                replace hx132_8 := (HB.out.cell (World.block_lt_of_cell? w _ hx132_8)).trans hx132_8
                                replace hx132_9 := (HB.out.cell (World.block_lt_of_cell? w _ hx132_9)).trans hx132_9
                                replace hx132_10 := (HB.out.cell (World.block_lt_of_cell? w _ hx132_10)).trans hx132_10
                                replace p132 := eq_true p132
                                replace q132 := eq_true q132
                                have p25 : 0 ≤ (x5_2 : Int) := of_decide_eq_true (by first | (with_reducible assumption) | assumption)
                                have q25 : (x5_2 : Int) < ((x3_2.length : Int) : Int) := of_decide_eq_true (by first | (with_reducible assumption) | assumption)
                                obtain ⟨go25, co25, eo25, gb25, gl25, cl25, HG25⟩ := Kd.R_form HO_3.out (by omega)
                                (first | cases eo25 | (injection eo25 with ea_ en_ ec_; (first | subst ea_ | (injection ea_ with ea_; subst ea_)); subst ec_; clear en_))
                                have GB25 := Aside0.mk gb25
                                have GG25 := Aside0.mk HG25
                                clear gb25 gl25 HG25
                                (first | simp only [add_plain] at hx128_0 | skip)
                                (first | simp only [add_plain] at hx128_1 | skip)
                                (first | simp only [add_plain] at hx128_2 | skip)
                                (first | simp only [add_plain] at hx128_3 | skip)
                                (first | simp only [add_plain] at hx128_4 | skip)
                                (first | simp only [add_plain] at hx128_5 | skip)
                                (first | simp only [add_plain] at hx128_6 | skip)
                                (first | simp only [add_plain] at hx128_7 | skip)
                                (first | simp only [add_plain] at hx128_8 | skip)
                                (first | simp only [add_plain] at hx128_9 | skip)
                                (first | simp only [add_plain] at hx128_10 | skip)
                                obtain ⟨ce25, hcl25, hM25, hcc25, hfr25⟩ := Kd.R_elem HO_3.out z51 (x5_2 : Int) p25 q25
                                obtain rfl := k51_openM hM25
                                have hx25_0 : w28.cell? ⟨go25, (x5_2 : Int).toNat * 11, none⟩ = some (.int .i64 ((rd_T51 x3_2 x5_2).f0.f0)) := hcc25 0 _ rfl
                                have hx25_1 : w28.cell? ⟨go25, (x5_2 : Int).toNat * 11 + 1, none⟩ = some (.int .i64 ((rd_T51 x3_2 x5_2).f0.f1)) := hcc25 1 _ rfl
                                have hx25_2 : w28.cell? ⟨go25, (x5_2 : Int).toNat * 11 + 2, none⟩ = some (.int .i64 ((rd_T51 x3_2 x5_2).f0.f2)) := hcc25 2 _ rfl
                                have hx25_3 : w28.cell? ⟨go25, (x5_2 : Int).toNat * 11 + 3, none⟩ = some (.int .i64 ((rd_T51 x3_2 x5_2).f1)) := hcc25 3 _ rfl
                                have hx25_4 : w28.cell? ⟨go25, (x5_2 : Int).toNat * 11 + 4, none⟩ = some (.int .i64 ((rd_T51 x3_2 x5_2).f2)) := hcc25 4 _ rfl
                                have hx25_5 : w28.cell? ⟨go25, (x5_2 : Int).toNat * 11 + 5, none⟩ = some (.int .i64 ((rd_T51 x3_2 x5_2).f3)) := hcc25 5 _ rfl
                                have hx25_6 : w28.cell? ⟨go25, (x5_2 : Int).toNat * 11 + 6, none⟩ = some (.int .i64 ((rd_T51 x3_2 x5_2).f4)) := hcc25 6 _ rfl
                                have hx25_7 : w28.cell? ⟨go25, (x5_2 : Int).toNat * 11 + 7, none⟩ = some (.int .i64 ((rd_T51 x3_2 x5_2).f5)) := hcc25 7 _ rfl
                                have hx25_8 : w28.cell? ⟨go25, (x5_2 : Int).toNat * 11 + 8, none⟩ = some (.int .i64 ((rd_T51 x3_2 x5_2).f6)) := hcc25 8 _ rfl
                                have hx25_9 : w28.cell? ⟨go25, (x5_2 : Int).toNat * 11 + 9, none⟩ = some (.int .i64 ((rd_T51 x3_2 x5_2).f7)) := hcc25 9 _ rfl
                                have hx25_10 : w28.cell? ⟨go25, (x5_2 : Int).toNat * 11 + 10, none⟩ = some (.int .i64 ((rd_T51 x3_2 x5_2).f8)) := hcc25 10 _ rfl
                                have hf25_0 : w28.frozen? ⟨go25, (x5_2 : Int).toNat * 11, none⟩ = false := hfr25 0
                                have hf25_1 : w28.frozen? ⟨go25, (x5_2 : Int).toNat * 11 + 1, none⟩ = false := hfr25 1
                                have hf25_2 : w28.frozen? ⟨go25, (x5_2 : Int).toNat * 11 + 2, none⟩ = false := hfr25 2
                                have hf25_3 : w28.frozen? ⟨go25, (x5_2 : Int).toNat * 11 + 3, none⟩ = false := hfr25 3
                                have hf25_4 : w28.frozen? ⟨go25, (x5_2 : Int).toNat * 11 + 4, none⟩ = false := hfr25 4
                                have hf25_5 : w28.frozen? ⟨go25, (x5_2 : Int).toNat * 11 + 5, none⟩ = false := hfr25 5
                                have hf25_6 : w28.frozen? ⟨go25, (x5_2 : Int).toNat * 11 + 6, none⟩ = false := hfr25 6
                                have hf25_7 : w28.frozen? ⟨go25, (x5_2 : Int).toNat * 11 + 7, none⟩ = false := hfr25 7
                                have hf25_8 : w28.frozen? ⟨go25, (x5_2 : Int).toNat * 11 + 8, none⟩ = false := hfr25 8
                                have hf25_9 : w28.frozen? ⟨go25, (x5_2 : Int).toNat * 11 + 9, none⟩ = false := hfr25 9
                                have hf25_10 : w28.frozen? ⟨go25, (x5_2 : Int).toNat * 11 + 10, none⟩ = false := hfr25 10
                                clear hcl25 hcc25 hfr25 hM25
                                replace p25 := eq_true p25
                                replace q25 := eq_true q25
                                have HX29 := Aside0.mk (show Kd.R k51 51 w28 w.heap.size (fun _ => True) (.slice (some ⟨go25, 0, none⟩) x3_2.length co27) x3_2 from (by (with_reducible repeat (first | apply Kd.R_alloc | apply Kd.R_drewN | apply Kd.R_drew)); exact HO_3.out))
                                obtain ⟨ce29, hcl29, hM29, hcc29, hfr29⟩ := Kd.R_elem HX29.out z51 (x5_2 : Int) (of_decide_eq_true (by first | (with_reducible assumption) | assumption)) (by have h_ : (x5_2 : Int) < ((x3_2.length : Int) : Int) := of_decide_eq_true (by first | (with_reducible assumption) | assumption); first | exact h_ | (have e_ := (Kd.R_reads' HO_3.out).1; omega) | simpa using h_)
                                obtain rfl := k51_openM hM29
                                have HP29 := Kd.R_seg HX29.out (x5_2 : Int) (of_decide_eq_true (by first | (with_reducible assumption) | assumption)) (by have h_ : (x5_2 : Int) < ((x3_2.length : Int) : Int) := of_decide_eq_true (by first | (with_reducible assumption) | assumption); first | exact h_ | (have e_ := (Kd.R_reads' HO_3.out).1; omega) | simpa using h_) (seg := [.int .i64 ((rd_T51 l0 x4_1).f0.f0), .int .i64 ((rd_T51 l0 x4_1).f0.f1), .int .i64 ((rd_T51 l0 x4_1).f0.f2), .int .i64 ((rd_T51 l0 x4_1).f1), .int .i64 ((rd_T51 l0 x4_1).f2), .int .i64 ((rd_T51 l0 x4_1).f3), .int .i64 ((rd_T51 l0 x4_1).f4), .int .i64 ((rd_T51 l0 x4_1).f5), .int .i64 ((rd_T51 l0 x4_1).f6), .int .i64 ((rd_T51 l0 x4_1).f7), .int .i64 ((rd_T51 l0 x4_1).f8)]) (j := 0) hcl29 hcc29 (show 11 ≤ 11 from by decide) (x' := (⟨(⟨(rd_T51 l0 x4_1).f0.f0, (rd_T51 l0 x4_1).f0.f1, (rd_T51 l0 x4_1).f0.f2⟩ : S48), (rd_T51 l0 x4_1).f1, (rd_T51 l0 x4_1).f2, (rd_T51 l0 x4_1).f3, (rd_T51 l0 x4_1).f4, (rd_T51 l0 x4_1).f5, (rd_T51 l0 x4_1).f6, (rd_T51 l0 x4_1).f7, (rd_T51 l0 x4_1).f8⟩ : S51)) (k51_mkM _ _ _ (⟨(⟨(rd_T51 l0 x4_1).f0.f0, (rd_T51 l0 x4_1).f0.f1, (rd_T51 l0 x4_1).f0.f2⟩ : S48), (rd_T51 l0 x4_1).f1, (rd_T51 l0 x4_1).f2, (rd_T51 l0 x4_1).f3, (rd_T51 l0 x4_1).f4, (rd_T51 l0 x4_1).f5, (rd_T51 l0 x4_1).f6, (rd_T51 l0 x4_1).f7, (rd_T51 l0 x4_1).f8⟩ : S51) ) (fun _ hk => hk)
                                have hx29_0 := hcc29 0 _ rfl
                                (try simp only [show (k51).sz = 11 from rfl, Nat.mul_one, Nat.add_zero] at hx29_0)
                                have hf29_0 := hfr29 0
                                (try simp only [show (k51).sz = 11 from rfl, Nat.mul_one, Nat.add_zero] at hf29_0)
                                have hx29_1 := hcc29 1 _ rfl
                                (try simp only [show (k51).sz = 11 from rfl, Nat.mul_one, Nat.add_zero] at hx29_1)
                                have hf29_1 := hfr29 1
                                (try simp only [show (k51).sz = 11 from rfl, Nat.mul_one, Nat.add_zero] at hf29_1)
                                have hx29_2 := hcc29 2 _ rfl
                                (try simp only [show (k51).sz = 11 from rfl, Nat.mul_one, Nat.add_zero] at hx29_2)
                                have hf29_2 := hfr29 2
                                (try simp only [show (k51).sz = 11 from rfl, Nat.mul_one, Nat.add_zero] at hf29_2)
                                have hx29_3 := hcc29 3 _ rfl
                                (try simp only [show (k51).sz = 11 from rfl, Nat.mul_one, Nat.add_zero] at hx29_3)
                                have hf29_3 := hfr29 3
                                (try simp only [show (k51).sz = 11 from rfl, Nat.mul_one, Nat.add_zero] at hf29_3)
                                have hx29_4 := hcc29 4 _ rfl
                                (try simp only [show (k51).sz = 11 from rfl, Nat.mul_one, Nat.add_zero] at hx29_4)
                                have hf29_4 := hfr29 4
                                (try simp only [show (k51).sz = 11 from rfl, Nat.mul_one, Nat.add_zero] at hf29_4)
                                have hx29_5 := hcc29 5 _ rfl
                                (try simp only [show (k51).sz = 11 from rfl, Nat.mul_one, Nat.add_zero] at hx29_5)
                                have hf29_5 := hfr29 5
                                (try simp only [show (k51).sz = 11 from rfl, Nat.mul_one, Nat.add_zero] at hf29_5)
                                have hx29_6 := hcc29 6 _ rfl
                                (try simp only [show (k51).sz = 11 from rfl, Nat.mul_one, Nat.add_zero] at hx29_6)
                                have hf29_6 := hfr29 6
                                (try simp only [show (k51).sz = 11 from rfl, Nat.mul_one, Nat.add_zero] at hf29_6)
                                have hx29_7 := hcc29 7 _ rfl
                                (try simp only [show (k51).sz = 11 from rfl, Nat.mul_one, Nat.add_zero] at hx29_7)
                                have hf29_7 := hfr29 7
                                (try simp only [show (k51).sz = 11 from rfl, Nat.mul_one, Nat.add_zero] at hf29_7)
                                have hx29_8 := hcc29 8 _ rfl
                                (try simp only [show (k51).sz = 11 from rfl, Nat.mul_one, Nat.add_zero] at hx29_8)
                                have hf29_8 := hfr29 8
                                (try simp only [show (k51).sz = 11 from rfl, Nat.mul_one, Nat.add_zero] at hf29_8)
                                have hx29_9 := hcc29 9 _ rfl
                                (try simp only [show (k51).sz = 11 from rfl, Nat.mul_one, Nat.add_zero] at hx29_9)
                                have hf29_9 := hfr29 9
                                (try simp only [show (k51).sz = 11 from rfl, Nat.mul_one, Nat.add_zero] at hf29_9)
                                have hx29_10 := hcc29 10 _ rfl
                                (try simp only [show (k51).sz = 11 from rfl, Nat.mul_one, Nat.add_zero] at hx29_10)
                                have hf29_10 := hfr29 10
                                (try simp only [show (k51).sz = 11 from rfl, Nat.mul_one, Nat.add_zero] at hf29_10)
                                clear hcl29 hcc29 hfr29 hM29
                                try go_wp2_with (first | ((with_reducible refine gate_store (t := 51) (p := 53) rfl ?_); refine store_event (t := 51) (p := 53) (v := ?vo_w30) (w1 := (((((((((((w28.setCell ⟨go25, (x5_2 : Int).toNat * 11, none⟩ (.int .i64 ((rd_T51 l0 x4_1).f0.f0))).setCell ⟨go25, (x5_2 : Int).toNat * 11 + 1, none⟩ (.int .i64 ((rd_T51 l0 x4_1).f0.f1))).setCell ⟨go25, (x5_2 : Int).toNat * 11 + 2, none⟩ (.int .i64 ((rd_T51 l0 x4_1).f0.f2))).setCell ⟨go25, (x5_2 : Int).toNat * 11 + 3, none⟩ (.int .i64 ((rd_T51 l0 x4_1).f1))).setCell ⟨go25, (x5_2 : Int).toNat * 11 + 4, none⟩ (.int .i64 ((rd_T51 l0 x4_1).f2))).setCell ⟨go25, (x5_2 : Int).toNat * 11 + 5, none⟩ (.int .i64 ((rd_T51 l0 x4_1).f3))).setCell ⟨go25, (x5_2 : Int).toNat * 11 + 6, none⟩ (.int .i64 ((rd_T51 l0 x4_1).f4))).setCell ⟨go25, (x5_2 : Int).toNat * 11 + 7, none⟩ (.int .i64 ((rd_T51 l0 x4_1).f5))).setCell ⟨go25, (x5_2 : Int).toNat * 11 + 8, none⟩ (.int .i64 ((rd_T51 l0 x4_1).f6))).setCell ⟨go25, (x5_2 : Int).toNat * 11 + 9, none⟩ (.int .i64 ((rd_T51 l0 x4_1).f7))).setCell ⟨go25, (x5_2 : Int).toNat * 11 + 10, none⟩ (.int .i64 ((rd_T51 l0 x4_1).f8)))) ?hg ?ho ?hn ?hr ?_; (case ho => rfl); (case hg => rfl); (case hn => rfl); (case hr => first | (go_simp; done) | (go_simp; rfl)); intro w30 hw; have hg : w28.grownBy w30 (some go25) := (by rw [hw]; exact HP29.2); have hp_ : Kd.R k51 51 w30 w.heap.size (fun _ => True) (.slice (some ⟨go25, 0, none⟩) x3_2.length co27) y133 := (by rw [hw, Ny133.out]; exact HP29.1); clear HP29; have n0_ := Aside0.mk (hp_); have n1_ := Aside0.mk ((by rw [hw]; exact below_set (below_set (below_set (below_set (below_set (below_set (below_set (below_set (below_set (below_set (below_set (HB.out) GB25.out) GB25.out) GB25.out) GB25.out) GB25.out) GB25.out) GB25.out) GB25.out) GB25.out) GB25.out) GB25.out : Below w.heap.size w w30)); clear HO_3; clear HB; have HO_3 := n0_; have HB := n1_; clear n0_ n1_; clear hg hw hp_))
                                go_roundg k2
                                case measure => have := HK1.out; have := HK2.out; omega
                                case rel => exact ⟨(y133), (wrap64 (x4_1 + 1)), (by first | rfl | (simp; done) | (simp [*]; done)), H', ⟨by have := HK1.out; have := HK2.out; omega⟩, ⟨by (with_reducible repeat (first | apply Kd.R_alloc | apply Kd.R_drewN | apply Kd.R_drew)); exact HO_3.out⟩, ⟨by repeat (first | (with_reducible first | exact HB.out | apply below_alloc | apply pw_below_drewN | apply below_drew1) | exact HB.out)⟩⟩
                              · rw [if_neg c24] at H
                                exact absurd H (by simp)
                            · rw [if_neg c23] at H
                              exact absurd H (by simp)
                        · rw [if_neg c12] at H
                          exact absurd H (by simp)
                      · rw [if_neg c11] at H
                        exact absurd H (by simp)
                    · rw [if_neg c9] at H
                      exact absurd H (by simp)
                  · rw [if_neg c8] at H
                    exact absurd H (by simp)
                · rw [if_neg c7] at H
                  have c7b0 : decide (0 < x5_2) = false := decide_eq_false c7
                  clear c7
                  by_cases c31 : 0 ≤ x4_1
                  · rw [if_pos c31] at H
                    have c31b0 : decide (0 ≤ x4_1) = true := decide_eq_true c31
                    clear c31
                    by_cases c32 : x4_1 < (l0.length : Int)
                    · rw [if_pos c32] at H
                      have c32b0 : decide (x4_1 < (l0.length : Int)) = true := decide_eq_true c32
                      clear c32
                      by_cases c33 : 0 ≤ x5_2
                      · rw [if_pos c33] at H
                        have c33b0 : decide (0 ≤ x5_2) = true := decide_eq_true c33
                        clear c33
                        by_cases c34 : x5_2 < (x3_2.length : Int)
                        · rw [if_pos c34] at H
                          have c34b0 : decide (x5_2 < (x3_2.length : Int)) = true := decide_eq_true c34
                          clear c34
                          obtain ⟨y135, hy135⟩ : ∃ y_ : List (S51), y_ = (x3_2.set (x5_2 : Int).toNat (⟨(⟨(rd_T51 l0 x4_1).f0.f0, (rd_T51 l0 x4_1).f0.f1, (rd_T51 l0 x4_1).f0.f2⟩ : S48), (rd_T51 l0 x4_1).f1, (rd_T51 l0 x4_1).f2, (rd_T51 l0 x4_1).f3, (rd_T51 l0 x4_1).f4, (rd_T51 l0 x4_1).f5, (rd_T51 l0 x4_1).f6, (rd_T51 l0 x4_1).f7, (rd_T51 l0 x4_1).f8⟩ : S51)) := ⟨_, rfl⟩
                          replace H : (hedgerowref09_Sorted.l0 k2 l0 y135 (wrap64 (x4_1 + 1))) = some r := by first | (rw [hy135]; with_reducible exact H) | (have H2_ := (Option.bind_some _ _).symm.trans H; rw [hy135]; with_reducible exact H2_) | (have H2_ := (Option.bind_some _ _).symm.trans H; with_reducible exact H2_) | with_reducible exact H | (rw [hy135]; exact H) | exact H
                          have Ny135 := Aside0.mk hy135
                          clear hy135
                          have H' := Aside0.mk H
                          clear H
                          try go_wp2
                          have n0_ := Aside0.mk (Kd.R_drew HO_3.out)
                          have n1_ := Aside0.mk (below_drew1 HB.out)
                          clear HO_3
                          clear HB
                          have HO_3 := n0_
                          have HB := n1_
                          clear n0_ n1_
                          refine start_ (n := 16) (S := fun w' => True) (ds := []) #[false, false, false, false, false, false, false, false, false, false, false, false, false, false, false, false] (by kernel_rfl) rfl rfl trivial (fun hHeld => ?_); refine with_tabW hedgerowref09_Sorted.tab7 hedgerowref09_Sorted.bits7 (fun HT_ HW_ => ?_)
                          generalize wr.drew = w36 at HO_3 HB hHeld ⊢
                          refine pure_ (i := 0) (N := some 21) (v := ?_) (a' := ?_) #[true, false, false, false, false, false, false, false, false, false, false, false, false, false, false, false] rfl rfl (any_of HT_.out (by kernel_rfl)) (fun _ _ _ h => h) (Or.inl ⟨by rfl, ?_⟩) ?_ ?_
                          rotate_left
                          · intro w'
                            go_simp
                            with_reducible rfl
                          rotate_left
                          · simp only [Act.put, List.setIfInBounds_toArray, List.set_cons_zero, List.set_cons_succ, i64_w, i32_w]
                            rfl
                          refine pure_ (i := 1) (N := some 22) (v := ?_) (a' := ?_) #[true, true, false, false, false, false, false, false, false, false, false, false, false, false, false, false] rfl rfl (any_of HT_.out (by kernel_rfl)) (fun _ _ _ h => h) (Or.inl ⟨by rfl, ?_⟩) ?_ ?_
                          rotate_left
                          · intro w'
                            go_simp
                            with_reducible rfl
                          rotate_left
                          · simp only [Act.put, List.setIfInBounds_toArray, List.set_cons_zero, List.set_cons_succ, i64_w, i32_w]
                            rfl
                          refine pure_ (i := 2) (N := some 23) (v := ?_) (a' := ?_) #[true, true, true, false, false, false, false, false, false, false, false, false, false, false, false, false] rfl rfl (any_of HT_.out (by kernel_rfl)) (fun _ _ _ h => h) (Or.inl ⟨by rfl, ?_⟩) ?_ ?_
                          rotate_left
                          · intro w'
                            go_simp
                            with_reducible rfl
                          rotate_left
                          · simp only [Act.put, List.setIfInBounds_toArray, List.set_cons_zero, List.set_cons_succ, i64_w, i32_w]
                            rfl
                          refine pure_ (i := 3) (N := some 24) (v := undef) (a' := ?_) #[true, true, true, true, false, false, false, false, false, false, false, false, false, false, false, false] rfl rfl (any_of HT_.out (by kernel_rfl)) (fun _ _ _ h => h) (Or.inr ⟨by rfl, rfl⟩) ?_ ?_
                          rotate_left
                          · simp only [Act.put, List.setIfInBounds_toArray, List.set_cons_zero, List.set_cons_succ, i64_w, i32_w]
                            rfl
                          refine pure_ (i := 4) (N := some 25) (v := undef) (a' := ?_) #[true, true, true, true, true, false, false, false, false, false, false, false, false, false, false, false] rfl rfl (any_of HT_.out (by kernel_rfl)) (fun _ _ _ h => h) (Or.inr ⟨by rfl, rfl⟩) ?_ ?_
                          rotate_left
                          · simp only [Act.put, List.setIfInBounds_toArray, List.set_cons_zero, List.set_cons_succ, i64_w, i32_w]
                            rfl
                          refine pure_ (i := 5) (N := some 26) (v := undef) (a' := ?_) #[true, true, true, true, true, true, false, false, false, false, false, false, false, false, false, false] rfl rfl (any_of HT_.out (by kernel_rfl)) (fun _ _ _ h => h) (Or.inr ⟨by rfl, rfl⟩) ?_ ?_
                          rotate_left
                          · simp only [Act.put, List.setIfInBounds_toArray, List.set_cons_zero, List.set_cons_succ, i64_w, i32_w]
                            rfl
                          refine pure_ (i := 6) (N := some 27) (v := undef) (a' := ?_) #[true, true, true, true, true, true, true, false, false, false, false, false, false, false, false, false] rfl rfl (any_of HT_.out (by kernel_rfl)) (fun _ _ _ h => h) (Or.inr ⟨by rfl, rfl⟩) ?_ ?_
                          rotate_left
                          · simp only [Act.put, List.setIfInBounds_toArray, List.set_cons_zero, List.set_cons_succ, i64_w, i32_w]
                            rfl
                          refine pure_ (i := 7) (N := some 28) (v := undef) (a' := ?_) #[true, true, true, true, true, true, true, true, false, false, false, false, false, false, false, false] rfl rfl (any_of HT_.out (by kernel_rfl)) (fun _ _ _ h => h) (Or.inr ⟨by rfl, rfl⟩) ?_ ?_
                          rotate_left
                          · simp only [Act.put, List.setIfInBounds_toArray, List.set_cons_zero, List.set_cons_succ, i64_w, i32_w]
                            rfl
                          refine pure_ (i := 8) (N := some 29) (v := undef) (a' := ?_) #[true, true, true, true, true, true, true, true, true, false, false, false, false, false, false, false] rfl rfl (any_of HT_.out (by kernel_rfl)) (fun _ _ _ h => h) (Or.inr ⟨by rfl, rfl⟩) ?_ ?_
                          rotate_left
                          · simp only [Act.put, List.setIfInBounds_toArray, List.set_cons_zero, List.set_cons_succ, i64_w, i32_w]
                            rfl
                          refine pure_ (i := 9) (N := some 30) (v := undef) (a' := ?_) #[true, true, true, true, true, true, true, true, true, true, false, false, false, false, false, false] rfl rfl (any_of HT_.out (by kernel_rfl)) (fun _ _ _ h => h) (Or.inr ⟨by rfl, rfl⟩) ?_ ?_
                          rotate_left
                          · simp only [Act.put, List.setIfInBounds_toArray, List.set_cons_zero, List.set_cons_succ, i64_w, i32_w]
                            rfl
                          refine pure_ (i := 10) (N := some 31) (v := undef) (a' := ?_) #[true, true, true, true, true, true, true, true, true, true, true, false, false, false, false, false] rfl rfl (any_of HT_.out (by kernel_rfl)) (fun _ _ _ h => h) (Or.inr ⟨by rfl, rfl⟩) ?_ ?_
                          rotate_left
                          · simp only [Act.put, List.setIfInBounds_toArray, List.set_cons_zero, List.set_cons_succ, i64_w, i32_w]
                            rfl
                          refine pure_ (i := 11) (N := some 32) (v := undef) (a' := ?_) #[true, true, true, true, true, true, true, true, true, true, true, true, false, false, false, false] rfl rfl (any_of HT_.out (by kernel_rfl)) (fun _ _ _ h => h) (Or.inr ⟨by rfl, rfl⟩) ?_ ?_
                          rotate_left
                          · simp only [Act.put, List.setIfInBounds_toArray, List.set_cons_zero, List.set_cons_succ, i64_w, i32_w]
                            rfl
                          refine pure_ (i := 12) (N := some 33) (v := undef) (a' := ?_) #[true, true, true, true, true, true, true, true, true, true, true, true, true, false, false, false] rfl rfl (any_of HT_.out (by kernel_rfl)) (fun _ _ _ h => h) (Or.inr ⟨by rfl, rfl⟩) ?_ ?_
                          rotate_left
                          · simp only [Act.put, List.setIfInBounds_toArray, List.set_cons_zero, List.set_cons_succ, i64_w, i32_w]
                            rfl
                          refine pure_ (i := 13) (N := some 34) (v := undef) (a' := ?_) #[true, true, true, true, true, true, true, true, true, true, true, true, true, true, false, false] rfl rfl (any_of HT_.out (by kernel_rfl)) (fun _ _ _ h => h) (Or.inr ⟨by rfl, rfl⟩) ?_ ?_
                          rotate_left
                          · simp only [Act.put, List.setIfInBounds_toArray, List.set_cons_zero, List.set_cons_succ, i64_w, i32_w]
                            rfl
                          refine pure_ (i := 14) (N := some 35) (v := undef) (a' := ?_) #[true, true, true, true, true, true, true, true, true, true, true, true, true, true, true, false] rfl rfl (any_of HT_.out (by kernel_rfl)) (fun _ _ _ h => h) (Or.inr ⟨by rfl, rfl⟩) ?_ ?_
                          rotate_left
                          · simp only [Act.put, List.setIfInBounds_toArray, List.set_cons_zero, List.set_cons_succ, i64_w, i32_w]
                            rfl
                          refine pure_ (i := 15) (N := some 36) (v := ?_) (a' := ?_) #[true, true, true, true, true, true, true, true, true, true, true, true, true, true, true, true] rfl rfl (any_of HT_.out (by kernel_rfl)) (fun _ _ _ h => h) (Or.inl ⟨by rfl, ?_⟩) ?_ ?_
                          rotate_left
                          · intro w'
                            go_simp
                            with_reducible rfl
                          rotate_left
                          · simp only [Act.put, List.setIfInBounds_toArray, List.set_cons_zero, List.set_cons_succ, i64_w, i32_w]
                            rfl
                          refine done_ (done_of HT_.out (by kernel_rfl)) ?_
                          have p134 : 0 ≤ (x4_1 : Int) := of_decide_eq_true (by first | (with_reducible assumption) | assumption)
                          have q134 : x4_1 < (l0.length : Int) := of_decide_eq_true (by first | (with_reducible assumption) | assumption)
                          obtain ⟨ad134, e134, hx134_0, hx134_1, hx134_2, hx134_3, hx134_4, hx134_5, hx134_6, hx134_7, hx134_8, hx134_9, hx134_10⟩ := at_T51 HR0.out x4_1 p134 q134
                          obtain rfl : ad123 = ad134 := (by injection e134)
                          replace hx134_0 := (HB.out.cell (World.block_lt_of_cell? w _ hx134_0)).trans hx134_0
                          replace hx134_1 := (HB.out.cell (World.block_lt_of_cell? w _ hx134_1)).trans hx134_1
                          replace hx134_2 := (HB.out.cell (World.block_lt_of_cell? w _ hx134_2)).trans hx134_2
                          replace hx134_3 := (HB.out.cell (World.block_lt_of_cell? w _ hx134_3)).trans hx134_3
                          replace hx134_4 := (HB.out.cell (World.block_lt_of_cell? w _ hx134_4)).trans hx134_4
                          replace hx134_5 := (HB.out.cell (World.block_lt_of_cell? w _ hx134_5)).trans hx134_5
                          replace hx134_6 := (HB.out.cell (World.block_lt_of_cell? w _ hx134_6)).trans hx134_6
                          replace hx134_7 := (HB.out.cell (World.block_lt_of_cell? w _ hx134_7)).trans hx134_7
                          replace hx134_8 := (HB.out.cell (World.block_lt_of_cell? w _ hx134_8)).trans hx134_8
                          replace hx134_9 := (HB.out.cell (World.block_lt_of_cell? w _ hx134_9)).trans hx134_9
                          replace hx134_10 := (HB.out.cell (World.block_lt_of_cell? w _ hx134_10)).trans hx134_10
                          replace p134 := eq_true p134
                          replace q134 := eq_true q134
                          have p35 : 0 ≤ (x5_2 : Int) := of_decide_eq_true (by first | (with_reducible assumption) | assumption)
                          have q35 : (x5_2 : Int) < ((x3_2.length : Int) : Int) := of_decide_eq_true (by first | (with_reducible assumption) | assumption)
                          obtain ⟨go35, co35, eo35, gb35, gl35, cl35, HG35⟩ := Kd.R_form HO_3.out (by omega)
                          (first | cases eo35 | (injection eo35 with ea_ en_ ec_; (first | subst ea_ | (injection ea_ with ea_; subst ea_)); subst ec_; clear en_))
                          have GB35 := Aside0.mk gb35
                          have GG35 := Aside0.mk HG35
                          clear gb35 gl35 HG35
                          obtain ⟨ce35, hcl35, hM35, hcc35, hfr35⟩ := Kd.R_elem HO_3.out z51 (x5_2 : Int) p35 q35
                          obtain rfl := k51_openM hM35
                          have hx35_0 : w36.cell? ⟨go35, (x5_2 : Int).toNat * 11, none⟩ = some (.int .i64 ((rd_T51 x3_2 x5_2).f0.f0)) := hcc35 0 _ rfl
                          have hx35_1 : w36.cell? ⟨go35, (x5_2 : Int).toNat * 11 + 1, none⟩ = some (.int .i64 ((rd_T51 x3_2 x5_2).f0.f1)) := hcc35 1 _ rfl
                          have hx35_2 : w36.cell? ⟨go35, (x5_2 : Int).toNat * 11 + 2, none⟩ = some (.int .i64 ((rd_T51 x3_2 x5_2).f0.f2)) := hcc35 2 _ rfl
                          have hx35_3 : w36.cell? ⟨go35, (x5_2 : Int).toNat * 11 + 3, none⟩ = some (.int .i64 ((rd_T51 x3_2 x5_2).f1)) := hcc35 3 _ rfl
                          have hx35_4 : w36.cell? ⟨go35, (x5_2 : Int).toNat * 11 + 4, none⟩ = some (.int .i64 ((rd_T51 x3_2 x5_2).f2)) := hcc35 4 _ rfl
                          have hx35_5 : w36.cell? ⟨go35, (x5_2 : Int).toNat * 11 + 5, none⟩ = some (.int .i64 ((rd_T51 x3_2 x5_2).f3)) := hcc35 5 _ rfl
                          have hx35_6 : w36.cell? ⟨go35, (x5_2 : Int).toNat * 11 + 6, none⟩ = some (.int .i64 ((rd_T51 x3_2 x5_2).f4)) := hcc35 6 _ rfl
                          have hx35_7 : w36.cell? ⟨go35, (x5_2 : Int).toNat * 11 + 7, none⟩ = some (.int .i64 ((rd_T51 x3_2 x5_2).f5)) := hcc35 7 _ rfl
                          have hx35_8 : w36.cell? ⟨go35, (x5_2 : Int).toNat * 11 + 8, none⟩ = some (.int .i64 ((rd_T51 x3_2 x5_2).f6)) := hcc35 8 _ rfl
                          have hx35_9 : w36.cell? ⟨go35, (x5_2 : Int).toNat * 11 + 9, none⟩ = some (.int .i64 ((rd_T51 x3_2 x5_2).f7)) := hcc35 9 _ rfl
                          have hx35_10 : w36.cell? ⟨go35, (x5_2 : Int).toNat * 11 + 10, none⟩ = some (.int .i64 ((rd_T51 x3_2 x5_2).f8)) := hcc35 10 _ rfl
                          have hf35_0 : w36.frozen? ⟨go35, (x5_2 : Int).toNat * 11, none⟩ = false := hfr35 0
                          have hf35_1 : w36.frozen? ⟨go35, (x5_2 : Int).toNat * 11 + 1, none⟩ = false := hfr35 1
                          have hf35_2 : w36.frozen? ⟨go35, (x5_2 : Int).toNat * 11 + 2, none⟩ = false := hfr35 2
                          have hf35_3 : w36.frozen? ⟨go35, (x5_2 : Int).toNat * 11 + 3, none⟩ = false := hfr35 3
                          have hf35_4 : w36.frozen? ⟨go35, (x5_2 : Int).toNat * 11 + 4, none⟩ = false := hfr35 4
                          have hf35_5 : w36.frozen? ⟨go35, (x5_2 : Int).toNat * 11 + 5, none⟩ = false := hfr35 5
                          have hf35_6 : w36.frozen? ⟨go35, (x5_2 : Int).toNat * 11 + 6, none⟩ = false := hfr35 6
                          have hf35_7 : w36.frozen? ⟨go35, (x5_2 : Int).toNat * 11 + 7, none⟩ = false := hfr35 7
                          have hf35_8 : w36.frozen? ⟨go35, (x5_2 : Int).toNat * 11 + 8, none⟩ = false := hfr35 8
                          have hf35_9 : w36.frozen? ⟨go35, (x5_2 : Int).toNat * 11 + 9, none⟩ = false := hfr35 9
                          have hf35_10 : w36.frozen? ⟨go35, (x5_2 : Int).toNat * 11 + 10, none⟩ = false := hfr35 10
                          clear hcl35 hcc35 hfr35 hM35
                          replace p35 := eq_true p35
                          replace q35 := eq_true q35
                          have HX37 := Aside0.mk (show Kd.R k51 51 w36 w.heap.size (fun _ => True) (.slice (some ⟨go35, 0, none⟩) x3_2.length co35) x3_2 from (by (with_reducible repeat (first | apply Kd.R_alloc | apply Kd.R_drewN | apply Kd.R_drew)); exact HO_3.out))
                          obtain ⟨ce37, hcl37, hM37, hcc37, hfr37⟩ := Kd.R_elem HX37.out z51 (x5_2 : Int) (of_decide_eq_true (by first | (with_reducible assumption) | assumption)) (by have h_ : (x5_2 : Int) < ((x3_2.length : Int) : Int) := of_decide_eq_true (by first | (with_reducible assumption) | assumption); first | exact h_ | (have e_ := (Kd.R_reads' HO_3.out).1; omega) | simpa using h_)
                          obtain rfl := k51_openM hM37
                          have HP37 := Kd.R_seg HX37.out (x5_2 : Int) (of_decide_eq_true (by first | (with_reducible assumption) | assumption)) (by have h_ : (x5_2 : Int) < ((x3_2.length : Int) : Int) := of_decide_eq_true (by first | (with_reducible assumption) | assumption); first | exact h_ | (have e_ := (Kd.R_reads' HO_3.out).1; omega) | simpa using h_) (seg := [.int .i64 ((rd_T51 l0 x4_1).f0.f0), .int .i64 ((rd_T51 l0 x4_1).f0.f1), .int .i64 ((rd_T51 l0 x4_1).f0.f2), .int .i64 ((rd_T51 l0 x4_1).f1), .int .i64 ((rd_T51 l0 x4_1).f2), .int .i64 ((rd_T51 l0 x4_1).f3), .int .i64 ((rd_T51 l0 x4_1).f4), .int .i64 ((rd_T51 l0 x4_1).f5), .int .i64 ((rd_T51 l0 x4_1).f6), .int .i64 ((rd_T51 l0 x4_1).f7), .int .i64 ((rd_T51 l0 x4_1).f8)]) (j := 0) hcl37 hcc37 (show 11 ≤ 11 from by decide) (x' := (⟨(⟨(rd_T51 l0 x4_1).f0.f0, (rd_T51 l0 x4_1).f0.f1, (rd_T51 l0 x4_1).f0.f2⟩ : S48), (rd_T51 l0 x4_1).f1, (rd_T51 l0 x4_1).f2, (rd_T51 l0 x4_1).f3, (rd_T51 l0 x4_1).f4, (rd_T51 l0 x4_1).f5, (rd_T51 l0 x4_1).f6, (rd_T51 l0 x4_1).f7, (rd_T51 l0 x4_1).f8⟩ : S51)) (k51_mkM _ _ _ (⟨(⟨(rd_T51 l0 x4_1).f0.f0, (rd_T51 l0 x4_1).f0.f1, (rd_T51 l0 x4_1).f0.f2⟩ : S48), (rd_T51 l0 x4_1).f1, (rd_T51 l0 x4_1).f2, (rd_T51 l0 x4_1).f3, (rd_T51 l0 x4_1).f4, (rd_T51 l0 x4_1).f5, (rd_T51 l0 x4_1).f6, (rd_T51 l0 x4_1).f7, (rd_T51 l0 x4_1).f8⟩ : S51) ) (fun _ hk => hk)
                          have hx37_0 := hcc37 0 _ rfl
                          (try simp only [show (k51).sz = 11 from rfl, Nat.mul_one, Nat.add_zero] at hx37_0)
                          have hf37_0 := hfr37 0
                          (try simp only [show (k51).sz = 11 from rfl, Nat.mul_one, Nat.add_zero] at hf37_0)
                          have hx37_1 := hcc37 1 _ rfl
                          (try simp only [show (k51).sz = 11 from rfl, Nat.mul_one, Nat.add_zero] at hx37_1)
                          have hf37_1 := hfr37 1
                          (try simp only [show (k51).sz = 11 from rfl, Nat.mul_one, Nat.add_zero] at hf37_1)
                          have hx37_2 := hcc37 2 _ rfl
                          (try simp only [show (k51).sz = 11 from rfl, Nat.mul_one, Nat.add_zero] at hx37_2)
                          have hf37_2 := hfr37 2
                          (try simp only [show (k51).sz = 11 from rfl, Nat.mul_one, Nat.add_zero] at hf37_2)
                          have hx37_3 := hcc37 3 _ rfl
                          (try simp only [show (k51).sz = 11 from rfl, Nat.mul_one, Nat.add_zero] at hx37_3)
                          have hf37_3 := hfr37 3
                          (try simp only [show (k51).sz = 11 from rfl, Nat.mul_one, Nat.add_zero] at hf37_3)
                          have hx37_4 := hcc37 4 _ rfl
                          (try simp only [show (k51).sz = 11 from rfl, Nat.mul_one, Nat.add_zero] at hx37_4)
                          have hf37_4 := hfr37 4
                          (try simp only [show (k51).sz = 11 from rfl, Nat.mul_one, Nat.add_zero] at hf37_4)
                          have hx37_5 := hcc37 5 _ rfl
                          (try simp only [show (k51).sz = 11 from rfl, Nat.mul_one, Nat.add_zero] at hx37_5)
                          have hf37_5 := hfr37 5
                          (try simp only [show (k51).sz = 11 from rfl, Nat.mul_one, Nat.add_zero] at hf37_5)
                          have hx37_6 := hcc37 6 _ rfl
                          (try simp only [show (k51).sz = 11 from rfl, Nat.mul_one, Nat.add_zero] at hx37_6)
                          have hf37_6 := hfr37 6
                          (try simp only [show (k51).sz = 11 from rfl, Nat.mul_one, Nat.add_zero] at hf37_6)
                          have hx37_7 := hcc37 7 _ rfl
                          (try simp only [show (k51).sz = 11 from rfl, Nat.mul_one, Nat.add_zero] at hx37_7)
                          have hf37_7 := hfr37 7
                          (try simp only [show (k51).sz = 11 from rfl, Nat.mul_one, Nat.add_zero] at hf37_7)
                          have hx37_8 := hcc37 8 _ rfl
                          (try simp only [show (k51).sz = 11 from rfl, Nat.mul_one, Nat.add_zero] at hx37_8)
                          have hf37_8 := hfr37 8
                          (try simp only [show (k51).sz = 11 from rfl, Nat.mul_one, Nat.add_zero] at hf37_8)
                          have hx37_9 := hcc37 9 _ rfl
                          (try simp only [show (k51).sz = 11 from rfl, Nat.mul_one, Nat.add_zero] at hx37_9)
                          have hf37_9 := hfr37 9
                          (try simp only [show (k51).sz = 11 from rfl, Nat.mul_one, Nat.add_zero] at hf37_9)
                          have hx37_10 := hcc37 10 _ rfl
                          (try simp only [show (k51).sz = 11 from rfl, Nat.mul_one, Nat.add_zero] at hx37_10)
                          have hf37_10 := hfr37 10
                          (try simp only [show (k51).sz = 11 from rfl, Nat.mul_one, Nat.add_zero] at hf37_10)
                          clear hcl37 hcc37 hfr37 hM37
                          try go_wp2_with (first | ((with_reducible refine gate_store (t := 51) (p := 53) rfl ?_); refine store_event (t := 51) (p := 53) (v := ?vo_w38) (w1 := (((((((((((w36.setCell ⟨go35, (x5_2 : Int).toNat * 11, none⟩ (.int .i64 ((rd_T51 l0 x4_1).f0.f0))).setCell ⟨go35, (x5_2 : Int).toNat * 11 + 1, none⟩ (.int .i64 ((rd_T51 l0 x4_1).f0.f1))).setCell ⟨go35, (x5_2 : Int).toNat * 11 + 2, none⟩ (.int .i64 ((rd_T51 l0 x4_1).f0.f2))).setCell ⟨go35, (x5_2 : Int).toNat * 11 + 3, none⟩ (.int .i64 ((rd_T51 l0 x4_1).f1))).setCell ⟨go35, (x5_2 : Int).toNat * 11 + 4, none⟩ (.int .i64 ((rd_T51 l0 x4_1).f2))).setCell ⟨go35, (x5_2 : Int).toNat * 11 + 5, none⟩ (.int .i64 ((rd_T51 l0 x4_1).f3))).setCell ⟨go35, (x5_2 : Int).toNat * 11 + 6, none⟩ (.int .i64 ((rd_T51 l0 x4_1).f4))).setCell ⟨go35, (x5_2 : Int).toNat * 11 + 7, none⟩ (.int .i64 ((rd_T51 l0 x4_1).f5))).setCell ⟨go35, (x5_2 : Int).toNat * 11 + 8, none⟩ (.int .i64 ((rd_T51 l0 x4_1).f6))).setCell ⟨go35, (x5_2 : Int).toNat * 11 + 9, none⟩ (.int .i64 ((rd_T51 l0 x4_1).f7))).setCell ⟨go35, (x5_2 : Int).toNat * 11 + 10, none⟩ (.int .i64 ((rd_T51 l0 x4_1).f8)))) ?hg ?ho ?hn ?hr ?_; (case ho => rfl); (case hg => rfl); (case hn => rfl); (case hr => first | (go_simp; done) | (go_simp; rfl)); intro w38 hw; have hg : w36.grownBy w38 (some go35) := (by rw [hw]; exact HP37.2); have hp_ : Kd.R k51 51 w38 w.heap.size (fun _ => True) (.slice (some ⟨go35, 0, none⟩) x3_2.length co35) y135 := (by rw [hw, Ny135.out]; exact HP37.1); clear HP37; have n0_ := Aside0.mk (hp_); have n1_ := Aside0.mk ((by rw [hw]; exact below_set (below_set (below_set (below_set (below_set (below_set (below_set (below_set (below_set (below_set (below_set (HB.out) GB35.out) GB35.out) GB35.out) GB35.out) GB35.out) GB35.out) GB35.out) GB35.out) GB35.out) GB35.out) GB35.out : Below w.heap.size w w38)); clear HO_3; clear HB; have HO_3 := n0_; have HB := n1_; clear n0_ n1_; clear hg hw hp_))
                          go_roundg k2
                          case measure => have := HK1.out; have := HK2.out; omega
                          case rel => exact ⟨(y135), (wrap64 (x4_1 + 1)), (by first | rfl | (simp; done) | (simp [*]; done)), H', ⟨by have := HK1.out; have := HK2.out; omega⟩, ⟨by (with_reducible repeat (first | apply Kd.R_alloc | apply Kd.R_drewN | apply Kd.R_drew)); exact HO_3.out⟩, ⟨by repeat (first | (with_reducible first | exact HB.out | apply below_alloc | apply pw_below_drewN | apply below_drew1) | exact HB.out)⟩⟩
                        · rw [if_neg c34] at H
                          exact absurd H (by simp)
                      · rw [if_neg c33] at H
                        exact absurd H (by simp)
                    · rw [if_neg c32] at H
                      exact absurd H (by simp)
                  · rw [if_neg c31] at H
                    exact absurd H (by simp)
          · rw [if_neg c4] at H
            exact absurd H (by simp)
        · rw [if_neg c3] at H
          exact absurd H (by simp)
      · rw [if_neg c2] at H
        have c2b0 : decide (x4_1 < (l0.length : Int)) = false := decide_eq_false c2
        clear c2
        obtain rfl := Option.some.inj H
        go_wp2
        go_ret
        exact ⟨_, by first | rfl | (simp [errW_none, errW_some] <;> rfl) | (simp [*, errW_none, errW_some] <;> rfl), by (with_reducible repeat (first | apply Kd.R_alloc | apply Kd.R_drewN | apply Kd.R_drew)); exact HO_3.out, by repeat (first | (with_reducible first | exact HB.out | apply below_alloc | apply pw_below_drewN | apply below_drew1) | exact HB.out)⟩
end Go.Proofs.Ythcgiacjmfmamaa.PA
