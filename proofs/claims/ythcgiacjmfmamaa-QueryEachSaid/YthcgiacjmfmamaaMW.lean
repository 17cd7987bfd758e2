/-
  The laws' helper awake; bits; the laws' arguments as they are read.
-/
import Derived.Test.YthcgiacjmfmamaaMQ
import Derived.Test.YthcgiacjmfmamaaV3
import Derived.Test.YthcgiacjmfmamaaRows
import Derived.Deep.Slices
import Derived.Deep.Fields
import Derived.ChangeSame
import Derived.Lib.SmallJoins
import Derived.WalkKit
import Derived.ProofKit
import Derived.OpenShut
import Derived.ShutString
import Derived.ChangeOld
import Derived.Below
import Derived.SizedLaws
namespace Go.Proofs.Ythcgiacjmfmamaa.PA
set_option linter.unusedVariables false
set_option linter.unusedSimpArgs false
open Go.RowKit Go.Shelf Go.Proofs.YthcgiacjmfmamaaW.PrintWords
def awB : TB := ⟨⟨0, 1, 0⟩, 1, 3, 0, 0, 0, 0, 0, 0⟩
def awC : TB := ⟨⟨0, 0, 0⟩, 5, 0, 0, 0, 0, 1, 0, 0⟩
theorem aw_made : madeL ([awB, awC].take 60) = [awB, awC] := by kernel_rfl
theorem aw_near : fnd 1 0 (fun b => decide (farI 2 0 b.f2 b.f3 ≤ 2)) [awB, awC] = [awB, awC] := by kernel_rfl
theorem aw_ids : fnd 1 0 (fun _ => true) [awB, awC] = [awB, awC] := by kernel_rfl
theorem aw_in : fnd 0 0 (fun b => hasI 1 0 9 9 b.f2 b.f3) [awB, awC] = [awB] := by kernel_rfl
theorem aw_masks : query_Masks.f 40 5 26 = some [5] := by kernel_rfl
theorem aw_far : farC 2 0 awB awC < 0 := by
  have h : farC 2 0 awB awC = -1 := by kernel_rfl
  omega
theorem aw_id : idEq awB.f0 awC.f0 = false := by kernel_rfl
theorem aw_dist : Dist [awB, awC] := by
  rw [← aw_made]; exact madeL_dist _
/-- A block that lies as two bundles lie. -/
theorem arow_block {W : World} {g : Nat} {L : List TB} (hg : W.heap[g]? = some (.cells (bunCells L).toArray 51 (0, 0))) (h0 : 0 < L.length) : ARow W g (.slice (some ⟨g, 0, none⟩) L.length L.length) L :=
  .inr ⟨g, L.length, h0, rfl, Nat.le_refl _, Nat.le_refl _, _, hg, fun i j hi hj => by rw [List.getElem?_toArray]; exact bunCells_at L i j hi hj⟩
theorem near_aw {w w' : World} {L : List TB} {e : Ending} (hp : L.Perm [awB, awC]) (h : NearPost 2 0 w (fnd 1 0 (fun b => decide (farI 2 0 b.f2 b.f3 ≤ 2)) L) e w') : ∃ v, e = .returned v ∧ Below w.heap.size w w' ∧ IRow w' w.heap.size v [awB.f0, awC.f0] := by
  obtain ⟨v, L1, L2, he, hb, hI, h1, h2⟩ := h
  have hp' := fnd_perm hp 1 0 (fun b => decide (farI 2 0 b.f2 b.f3 ≤ 2))
  rw [aw_near] at hp'
  have e2 := near_one (M' := [awB, awC]) hp' aw_dist h1 h2 (List.Perm.refl _) (List.pairwise_cons.2 ⟨fun y hy => by rw [List.mem_singleton.1 hy]; exact .inl aw_far, List.pairwise_singleton _ _⟩)
  rw [e2] at hI
  exact ⟨v, he, hb, hI⟩
theorem in_aw {w w' : World} {L : List TB} {e : Ending} (hp : L.Perm [awB, awC]) (h : NamesPost (fun x y => cmpID x.f0 y.f0) w (fnd 0 0 (fun b => hasI 1 0 9 9 b.f2 b.f3) L) e w') : ∃ v, e = .returned v ∧ Below w.heap.size w w' ∧ IRow w' w.heap.size v [awB.f0] := by
  obtain ⟨v, L1, he, hb, hI, h1⟩ := h
  have hp' := fnd_perm hp 0 0 (fun b => hasI 1 0 9 9 b.f2 b.f3)
  rw [aw_in] at hp'
  have e2 := told_one (M' := [awB]) hp' (List.pairwise_singleton _ _) h1 (List.Perm.refl _) (List.pairwise_singleton _ _)
  rw [e2] at hI
  exact ⟨v, he, hb, hI⟩
theorem ids_aw {w w' : World} {L : List TB} {e : Ending} (hp : L.Perm [awB, awC]) (h : NamesPost (fun x y => cmpID x.f0 y.f0) w (fnd 1 0 (fun _ => true) L) e w') : ∃ A c, e = .returned (.slice A 2 c) ∧ Below w.heap.size w w' := by
  obtain ⟨v, L1, he, hb, hI, h1⟩ := h
  have hp' := (h1.perm.trans (fnd_perm hp 1 0 (fun _ => true))).length_eq
  rw [aw_ids] at hp'
  obtain ⟨A, c, hv, _⟩ := Kd.R_reads hI
  rw [List.length_map, hp'] at hv
  exact ⟨A, c, by rw [he, hv]; rfl, hb⟩
/-- What a row of names shows: its cells. -/
theorem irow_cells {w w' : World} {base : Nat} {v : Value} {x : TID} {l : List TID} (hI : IRow w base v (x :: l)) (hb : Below w.heap.size w w') : ∃ ad c, v = .slice (some ad) (l.length + 1) c ∧ l.length + 1 ≤ c ∧ w'.cell? ad = some (.int .i64 x.f0) ∧ w'.cell? ⟨ad.block, ad.off + 1, none⟩ = some (.int .i64 x.f1) ∧ w'.cell? ⟨ad.block, ad.off + 2, none⟩ = some (.int .i64 x.f2) := by
  obtain ⟨A, c, hv, hc, hC⟩ := Kd.R_reads hI
  obtain ⟨ad, e, x0, x1, x2⟩ := at_T48 hC 0 (Int.le_refl _) (by simp)
  have hr : rd_T48 (x :: l) 0 = x := rfl
  have ha : ad.add ((0 : Int).toNat * 3) = ad := by simp [Addr.add]
  rw [hr, ha] at x0 x1 x2
  subst e
  exact ⟨ad, c, hv, hc, (hb.cell (World.block_lt_of_cell? w _ x0)).trans x0, (hb.cell (World.block_lt_of_cell? w _ x1)).trans x1, (hb.cell (World.block_lt_of_cell? w _ x2)).trans x2⟩
theorem ints_cell {w w' : World} {base : Nat} {v : Value} {x : Int} {l : List Int} (hI : Kd.R (Kd.int .i64) 3 w base (fun _ => True) v (x :: l)) (hb : Below w.heap.size w w') : ∃ ad c, v = .slice (some ad) (l.length + 1) c ∧ l.length + 1 ≤ c ∧ w'.cell? ad = some (.int .i64 x) := by
  obtain ⟨A, c, hv, hc, hC⟩ := Kd.R_reads hI
  obtain ⟨ad, e, hcell⟩ := hC.2.2 (by simp)
  obtain ⟨cs, _, hK, hcc⟩ := hcell 0 x rfl
  have hK' : cs = [.int .i64 x] := hK
  subst hK'
  have h0 := hcc 0 _ rfl
  have ha : ad.add (0 * (Kd.int .i64).sz + 0) = ad := by simp [Addr.add]
  rw [ha] at h0
  subst e
  exact ⟨ad, c, hv, hc, (hb.cell (World.block_lt_of_cell? w _ h0)).trans h0⟩
theorem aw_world (w : World) : Below w.heap.size w ((w.alloc (.cells #[.int .i64 0, .int .i64 1, .int .i64 0, .int .i64 1, .int .i64 3, .int .i64 0, .int .i64 0, .int .i64 0, .int .i64 0, .int .i64 0, .int .i64 0] 51)).alloc (.cells #[.int .i64 0, .int .i64 1, .int .i64 0, .int .i64 1, .int .i64 3, .int .i64 0, .int .i64 0, .int .i64 0, .int .i64 0, .int .i64 0, .int .i64 0, .int .i64 0, .int .i64 0, .int .i64 0, .int .i64 5, .int .i64 0, .int .i64 0, .int .i64 0, .int .i64 0, .int .i64 1, .int .i64 0, .int .i64 0] 51)) ∧ (((w.alloc (.cells #[.int .i64 0, .int .i64 1, .int .i64 0, .int .i64 1, .int .i64 3, .int .i64 0, .int .i64 0, .int .i64 0, .int .i64 0, .int .i64 0, .int .i64 0] 51)).alloc (.cells #[.int .i64 0, .int .i64 1, .int .i64 0, .int .i64 1, .int .i64 3, .int .i64 0, .int .i64 0, .int .i64 0, .int .i64 0, .int .i64 0, .int .i64 0, .int .i64 0, .int .i64 0, .int .i64 0, .int .i64 5, .int .i64 0, .int .i64 0, .int .i64 0, .int .i64 0, .int .i64 1, .int .i64 0, .int .i64 0] 51))).heap[w.heap.size]? = some (.cells #[.int .i64 0, .int .i64 1, .int .i64 0, .int .i64 1, .int .i64 3, .int .i64 0, .int .i64 0, .int .i64 0, .int .i64 0, .int .i64 0, .int .i64 0] 51 (0, 0)) ∧ Kd.C k51 ((w.alloc (.cells #[.int .i64 0, .int .i64 1, .int .i64 0, .int .i64 1, .int .i64 3, .int .i64 0, .int .i64 0, .int .i64 0, .int .i64 0, .int .i64 0, .int .i64 0] 51)).alloc (.cells #[.int .i64 0, .int .i64 1, .int .i64 0, .int .i64 1, .int .i64 3, .int .i64 0, .int .i64 0, .int .i64 0, .int .i64 0, .int .i64 0, .int .i64 0, .int .i64 0, .int .i64 0, .int .i64 0, .int .i64 5, .int .i64 0, .int .i64 0, .int .i64 0, .int .i64 0, .int .i64 1, .int .i64 0, .int .i64 0] 51)) (some ⟨w.heap.size + 1, 0, none⟩) 2 [awB, awC] := by
  have hg := heap_alloc_new (w.alloc (.cells #[.int .i64 0, .int .i64 1, .int .i64 0, .int .i64 1, .int .i64 3, .int .i64 0, .int .i64 0, .int .i64 0, .int .i64 0, .int .i64 0, .int .i64 0] 51)) (.cells #[.int .i64 0, .int .i64 1, .int .i64 0, .int .i64 1, .int .i64 3, .int .i64 0, .int .i64 0, .int .i64 0, .int .i64 0, .int .i64 0, .int .i64 0, .int .i64 0, .int .i64 0, .int .i64 0, .int .i64 5, .int .i64 0, .int .i64 0, .int .i64 0, .int .i64 0, .int .i64 1, .int .i64 0, .int .i64 0] 51)
  have hg1 := (heap_old (w.alloc (.cells #[.int .i64 0, .int .i64 1, .int .i64 0, .int .i64 1, .int .i64 3, .int .i64 0, .int .i64 0, .int .i64 0, .int .i64 0, .int .i64 0, .int .i64 0] 51)) (.cells #[.int .i64 0, .int .i64 1, .int .i64 0, .int .i64 1, .int .i64 3, .int .i64 0, .int .i64 0, .int .i64 0, .int .i64 0, .int .i64 0, .int .i64 0, .int .i64 0, .int .i64 0, .int .i64 0, .int .i64 5, .int .i64 0, .int .i64 0, .int .i64 0, .int .i64 0, .int .i64 1, .int .i64 0, .int .i64 0] 51) w.heap.size (by simp)).trans (heap_alloc_new w (.cells #[.int .i64 0, .int .i64 1, .int .i64 0, .int .i64 1, .int .i64 3, .int .i64 0, .int .i64 0, .int .i64 0, .int .i64 0, .int .i64 0, .int .i64 0] 51))
  rw [World.size_alloc] at hg
  refine ⟨below_alloc (below_alloc (Below.refl _ _) _) _, hg1, ?_⟩
  have hA := arow_block (L := [awB, awC]) hg (by decide)
  obtain ⟨A, c, e, _, hC⟩ := hA.reads (by decide)
  have eA : A = some ⟨w.heap.size + 1, 0, none⟩ := by
    injection e with e1 e2 e3
    exact e1.symm
  rw [eA] at hC
  exact hC
theorem aw_keep1 {w4 Wa W' : World} {a1 a2 a3 a4 a5 a6 a7 a8 a9 a10 : Addr} {v1 v2 v3 v4 v5 v6 v7 v8 v9 v10 : Value} (hb : Below Wa.heap.size Wa W')
    (h : (Wa.cell? a1 = some v1 ∧ Wa.cell? a2 = some v2 ∧ Wa.cell? a3 = some v3 ∧ Wa.cell? a4 = some v4 ∧ Wa.cell? a5 = some v5 ∧ Wa.cell? a6 = some v6 ∧ Wa.cell? a7 = some v7 ∧ Wa.cell? a8 = some v8 ∧ Wa.cell? a9 = some v9 ∧ Wa.cell? a10 = some v10) ∧ Below w4.heap.size w4 Wa) :
    (W'.cell? a1 = some v1 ∧ W'.cell? a2 = some v2 ∧ W'.cell? a3 = some v3 ∧ W'.cell? a4 = some v4 ∧ W'.cell? a5 = some v5 ∧ W'.cell? a6 = some v6 ∧ W'.cell? a7 = some v7 ∧ W'.cell? a8 = some v8 ∧ W'.cell? a9 = some v9 ∧ W'.cell? a10 = some v10) ∧ Below w4.heap.size w4 W' := by
  obtain ⟨⟨h1, h2, h3, h4, h5, h6, h7, h8, h9, h10⟩, hw⟩ := h
  have key : ∀ {a : Addr} {v : Value}, Wa.cell? a = some v → W'.cell? a = some v := fun h => (hb.cell (World.block_lt_of_cell? Wa _ h)).trans h
  exact ⟨⟨key h1, key h2, key h3, key h4, key h5, key h6, key h7, key h8, key h9, key h10⟩, hw.trans (hb.mono hw.size)⟩
theorem aw_held {w4 Wa : World} {A : Prop} (h : A ∧ Below w4.heap.size w4 Wa) {base : Nat} {p : Option Addr} {L : List TB} (hs : Holds w4 base p L) : Holds Wa base p L := hs.below h.2
set_option maxRecDepth 100000 in
set_option maxHeartbeats 4000000 in
theorem awake_x (w : World) : Calls Try.prog 18 #[] w fun e w' => e = .returned (.bool true) ∧ Below w.heap.size w w' := by
  obtain ⟨h01, h02, h03⟩ := aw_world w
  have H1 := Aside0.mk h01
  have H2 := Aside0.mk h02
  have H3 := Aside0.mk h03
  clear h01 h02 h03
  have hma := made_x ((w.alloc (.cells #[.int .i64 0, .int .i64 1, .int .i64 0, .int .i64 1, .int .i64 3, .int .i64 0, .int .i64 0, .int .i64 0, .int .i64 0, .int .i64 0, .int .i64 0] 51)).alloc (.cells #[.int .i64 0, .int .i64 1, .int .i64 0, .int .i64 1, .int .i64 3, .int .i64 0, .int .i64 0, .int .i64 0, .int .i64 0, .int .i64 0, .int .i64 0, .int .i64 0, .int .i64 0, .int .i64 0, .int .i64 5, .int .i64 0, .int .i64 0, .int .i64 0, .int .i64 0, .int .i64 1, .int .i64 0, .int .i64 0] 51)) (some ⟨w.heap.size + 1, 0, none⟩) 2 [awB, awC] H3.out
  go_enter Try.func18, Try.ntmps18
  go_wp2_with fail
  obtain ⟨Wz, hWz⟩ : ∃ Wz, Wz = ((w.alloc (.cells #[.int .i64 0, .int .i64 1, .int .i64 0, .int .i64 1, .int .i64 3, .int .i64 0, .int .i64 0, .int .i64 0, .int .i64 0, .int .i64 0, .int .i64 0] 51)).alloc (.cells #[.int .i64 0, .int .i64 1, .int .i64 0, .int .i64 1, .int .i64 3, .int .i64 0, .int .i64 0, .int .i64 0, .int .i64 0, .int .i64 0, .int .i64 0, .int .i64 0, .int .i64 0, .int .i64 0, .int .i64 5, .int .i64 0, .int .i64 0, .int .i64 0, .int .i64 0, .int .i64 1, .int .i64 0, .int .i64 0] 51)) := ⟨_, rfl⟩
  rw [← hWz]
  rw [← hWz] at hma H1 H2
  clear H3 hWz
  refine hma.mono ?_
  rintro e w1 ⟨b, T, v, rfl, hM⟩
  rw [aw_made] at hM
  obtain ⟨A1, c1, rfl, hc1, hC1⟩ := (ARow.of_own hM.row hM.nil).reads (by decide)
  have hM1 := Aside0.mk hM
  have HP : Aside0 ((toL T).Perm [awB, awC]) := Aside0.mk hM.perm
  have hl : (toL T).length < 1000 := by rw [hM.perm.length_eq]; decide
  clear hM hma
  go_wp2_with fail
  refine (query_Masks.calls 40 5 26 [5] _ aw_masks).mono ?_
  rintro e w2 ⟨v2, rfl, hR2, hb2⟩
  obtain ⟨ad2, c2, rfl, hc2, m0⟩ := ints_cell hR2 (Below.refl _ _)
  simp only [List.length_nil, Nat.zero_add]
  have hS2 : Holds w2 Wz.heap.size (some ⟨b, 0, none⟩) (toL T) := .inr ⟨b, T, rfl, hM1.out.sto.below hb2, rfl⟩
  have hne := near_x w2 hS2 hl 1 0 2 0 2
  go_wp2_with fail
  refine hne.mono ?_
  rintro e w3 hpost
  obtain ⟨v3, rfl, hb3, hI3⟩ := near_aw HP.out hpost
  obtain ⟨ad3, c3, rfl, hc3, n0, n1, n2⟩ := irow_cells hI3 (Below.refl _ _)
  have hS3 := hS2.below hb3
  have hin := within_x w3 hS3 hl 0 0 1 0 9 9
  clear hne hpost
  go_wp2_with fail
  refine hin.mono ?_
  rintro e w4 hpost
  obtain ⟨v4, rfl, hb4, hI4⟩ := in_aw HP.out hpost
  obtain ⟨ad4, c4, rfl, hc4, i0, i1, i2⟩ := irow_cells hI4 (Below.refl _ _)
  clear hin hpost
  go_wp2
  have hz1 : Below w.heap.size w w1 := H1.out.trans (hM1.out.below.mono H1.out.size)
  have hz2 : Below w.heap.size w w2 := hz1.trans (hb2.mono hz1.size)
  have hz3 : Below w.heap.size w w3 := hz2.trans (hb3.mono hz2.size)
  have hz4 : Below w.heap.size w w4 := hz3.trans (hb4.mono hz3.size)
  have m0' : w4.cell? ad2 = some (.int .i64 5) := ((hb3.trans (hb4.mono hb3.size)).cell (World.block_lt_of_cell? w2 _ m0)).trans m0
  have n0' : w4.cell? ad3 = some (.int .i64 0) := (hb4.cell (World.block_lt_of_cell? w3 _ n0)).trans n0
  have n1' : w4.cell? ⟨ad3.block, ad3.off + 1, none⟩ = some (.int .i64 1) := (hb4.cell (World.block_lt_of_cell? w3 _ n1)).trans n1
  have n2' : w4.cell? ⟨ad3.block, ad3.off + 2, none⟩ = some (.int .i64 0) := (hb4.cell (World.block_lt_of_cell? w3 _ n2)).trans n2
  have i0' : w4.cell? ad4 = some (.int .i64 0) := i0
  have i1' : w4.cell? ⟨ad4.block, ad4.off + 1, none⟩ = some (.int .i64 1) := i1
  have i2' : w4.cell? ⟨ad4.block, ad4.off + 2, none⟩ = some (.int .i64 0) := i2
  clear m0 n0 n1 n2 i0 i1 i2
  have hbz : Below Wz.heap.size Wz w4 := (((hM1.out.below.trans (hb2.mono hM1.out.below.size)).trans (hb3.mono (hM1.out.below.trans (hb2.mono hM1.out.below.size)).size)).trans (hb4.mono ((hM1.out.below.trans (hb2.mono hM1.out.below.size)).trans (hb3.mono (hM1.out.below.trans (hb2.mono hM1.out.below.size)).size)).size))
  have bx := (hbz.block _ (blk_lt H2.out)).trans H2.out
  have b0 : w4.cell? ⟨w.heap.size, 0, none⟩ = some (.int .i64 0) := (blk_cell bx 0).trans rfl
  have b1 : w4.cell? ⟨w.heap.size, 1, none⟩ = some (.int .i64 1) := (blk_cell bx 1).trans rfl
  have b2 : w4.cell? ⟨w.heap.size, 2, none⟩ = some (.int .i64 0) := (blk_cell bx 2).trans rfl
  have HZ4 := Aside0.mk hz4
  have HS4 := Aside0.mk (hS3.below hb4)
  have HL := Aside0.mk hl
  clear bx hbz hz1 hz2 hz3 hz4 hS2 hS3 hb2 hb3 hb4 hI3 hI4 hR2 hC1 hl
  go_region_held3 (fun W' => (W'.cell? ad2 = some (.int .i64 5) ∧ W'.cell? ad3 = some (.int .i64 0) ∧ W'.cell? ⟨ad3.block, ad3.off + 1, none⟩ = some (.int .i64 1) ∧ W'.cell? ⟨ad3.block, ad3.off + 2, none⟩ = some (.int .i64 0) ∧ W'.cell? ad4 = some (.int .i64 0) ∧ W'.cell? ⟨ad4.block, ad4.off + 1, none⟩ = some (.int .i64 1) ∧ W'.cell? ⟨ad4.block, ad4.off + 2, none⟩ = some (.int .i64 0) ∧ W'.cell? ⟨w.heap.size, 0, none⟩ = some (.int .i64 0) ∧ W'.cell? ⟨w.heap.size, 1, none⟩ = some (.int .i64 1) ∧ W'.cell? ⟨w.heap.size, 2, none⟩ = some (.int .i64 0)) ∧ Below w4.heap.size w4 W')
    (first | exact aw_keep1 (by assumption) (by assumption) | exact ⟨⟨m0', n0', n1', n2', i0', i1', i2', b0, b1, b2⟩, by first | exact Below.refl _ _ | exact below_drew (Below.refl _ _)⟩)
    (first | (refine (ids_x _ (aw_held (by assumption) HS4.out) HL.out 1 0).mono ?_; rintro e w' hpost; obtain ⟨A9, c9, rfl, hbw⟩ := ids_aw HP.out hpost; clear hpost))
  all_goals
    rename_i hS
    have hBe := Aside0.mk (HZ4.out.trans (hS.2.mono HZ4.out.size))
    clear hS
    go_wp2
    go_ret
    exact ⟨rfl, hBe.out⟩
end Go.Proofs.Ythcgiacjmfmamaa.PA

namespace Go.Proofs.Ythcgiacjmfmamaa.PA
set_option linter.unusedVariables false
set_option linter.unusedSimpArgs false
open Go.RowKit Go.Proofs.YthcgiacjmfmamaaW.PrintWords
def bv (x : Int) : BitVec 64 := BitVec.ofInt 64 x
theorem wrap_toInt (u : BitVec 64) : IntKind.i64.wrap (u.toNat : Int) = u.toInt := by
  have hlt := u.isLt
  rw [BitVec.toInt_eq_toNat_bmod]
  unfold IntKind.wrap
  simp only [IntKind.bits, IntKind.signed]
  simp
  rw [Int.emod_eq_of_lt (by omega) (by omega)]
  unfold Int.bmod
  simp
  rw [Int.emod_eq_of_lt (by omega) (by omega)]
  split <;> split <;> omega
theorem and_toInt (x y : Int) : bits .and .i64 x y = (bv x &&& bv y).toInt := wrap_toInt (bv x &&& bv y)
theorem or_toInt (x y : Int) : bits .or .i64 x y = (bv x ||| bv y).toInt := wrap_toInt (bv x ||| bv y)
theorem wf_lt {x : Int} (h : wfI x) : -9223372036854775808 ≤ x ∧ x ≤ 9223372036854775807 := by
  unfold wfI at h
  simp [Lit.wf, IntKind.min, IntKind.max, IntKind.signed, IntKind.bits] at h
  omega
theorem bv_toInt {x : Int} (h : wfI x) : (bv x).toInt = x := by
  have := wf_lt h
  unfold bv
  rw [BitVec.toInt_ofInt]
  unfold Int.bmod
  simp only [show ((2 ^ 64 : Nat) : Int) = 18446744073709551616 from rfl]
  split <;> omega
theorem bv_of_toInt (u : BitVec 64) : bv u.toInt = u := by
  unfold bv
  exact BitVec.ofInt_toInt
theorem and_has (x y : BitVec 64) : x &&& y = y ↔ x ||| y = x := by
  constructor
  · intro h
    ext i hi
    have := congrArg (fun z => z[i]) h
    simp at this
    simp
    intro hy
    exact this hy
  · intro h
    ext i hi
    have := congrArg (fun z => z[i]) h
    simp at this
    simp
    intro hy
    exact this hy
/-- A mask is asked for. -/
def mt (qa qn m : Int) : Bool := decide (bits .and .i64 m qa = qa) && (bits .and .i64 m qn == 0)
theorem match_eq (qa qn m : Int) : query_Match.f qa qn m = some (mt qa qn m) := match_f qa qn m
theorem has_or {qa m : Int} (ha : wfI qa) (hm : wfI m) : bits .or .i64 m qa = m ↔ bits .and .i64 m qa = qa := by
  rw [or_toInt, and_toInt]
  have h1 : ((bv m ||| bv qa).toInt = m) ↔ (bv m ||| bv qa = bv m) := by
    rw [← BitVec.toInt_inj, bv_toInt hm]
  have h2 : ((bv m &&& bv qa).toInt = qa) ↔ (bv m &&& bv qa = bv qa) := by
    rw [← BitVec.toInt_inj, bv_toInt ha]
  rw [h1, h2]
  exact (and_has _ _).symm
theorem refmatch_eq {qa qn m : Int} (ha : wfI qa) (hm : wfI m) : hedgerowref12_Match.f qa qn m = some (mt qa qn m) := by
  unfold hedgerowref12_Match.f mt
  by_cases h : bits .and .i64 m qa = qa
  · rw [if_pos ((has_or ha hm).2 h)]; simp [h]
  · rw [if_neg (fun e => h ((has_or ha hm).1 e))]; simp [h]
theorem wf_small {n : Int} (h1 : 0 ≤ n) (h2 : n ≤ 1048575) : wfI n := by
  have := wrap64_wf n
  rw [IntWalk.wrap64_in _ (by omega)] at this
  exact this
/-- All masks that are asked for, from i on. -/
def masksL (qa qn : Int) (i : Nat) : List Int := ((List.range' i (32 - i)).filter fun (m : Nat) => mt qa qn (m : Int)).map fun (m : Nat) => (m : Int)
theorem masksL_step (qa qn : Int) (i : Nat) (h : i < 32) : masksL qa qn i = if mt qa qn (i : Int) = true then (i : Int) :: masksL qa qn (i + 1) else masksL qa qn (i + 1) := by
  unfold masksL
  obtain ⟨d, hd⟩ : ∃ d, 32 - i = d + 1 := ⟨31 - i, by omega⟩
  rw [hd, List.range'_succ, List.filter_cons, show 32 - (i + 1) = d by omega]
  split <;> rfl
theorem masks_l0 (qa qn : Int) : ∀ (d i k : Nat) (acc : List Int), i + d = 32 → d < k → acc.length ≤ i → query_Masks.l0 k acc (i : Int) qa qn = some (acc ++ masksL qa qn i) := by
  intro d
  induction d with
  | zero =>
    intro i k acc hi hk ha
    obtain ⟨k, rfl⟩ : ∃ G, k = G + 1 := ⟨k - 1, by omega⟩
    rw [query_Masks.l0, if_neg (by omega)]
    obtain rfl : i = 32 := by omega
    simp [masksL]
  | succ d ih =>
    intro i k acc hi hk ha
    obtain ⟨k, rfl⟩ : ∃ G, k = G + 1 := ⟨k - 1, by omega⟩
    rw [query_Masks.l0, if_pos (by omega), match_eq, Option.bind_some, masksL_step qa qn i (by omega)]
    have e : Go.RowKit.wrap64 ((i : Int) + 1) = ((i + 1 : Nat) : Int) := by rw [IntWalk.wrap64_in _ (by omega)]; omega
    by_cases hm : mt qa qn (i : Int) = true
    · rw [if_pos hm, if_pos (by omega), if_pos hm, e, ih (i + 1) k _ (by omega) (by omega) (by simp; omega), List.append_assoc]; rfl
    · rw [if_neg hm, if_neg hm, e, ih (i + 1) k _ (by omega) (by omega) (by omega)]
theorem masks_eq (qa qn : Int) : query_Masks.f 40 qa qn = some (masksL qa qn 0) := by
  unfold query_Masks.f
  have := masks_l0 qa qn 32 0 40 [] (by omega) (by omega) (by simp)
  simpa using this
theorem refmasks_l0 {qa : Int} (ha : wfI qa) (qn : Int) : ∀ (d i k : Nat) (acc : List Int), i + d = 32 → d < k → acc.length ≤ i → hedgerowref12_Masks.l0 k acc (i : Int) qa qn = some (acc ++ masksL qa qn i) := by
  intro d
  induction d with
  | zero =>
    intro i k acc hi hk hl
    obtain ⟨k, rfl⟩ : ∃ G, k = G + 1 := ⟨k - 1, by omega⟩
    rw [hedgerowref12_Masks.l0, if_neg (by omega)]
    obtain rfl : i = 32 := by omega
    simp [masksL]
  | succ d ih =>
    intro i k acc hi hk hl
    obtain ⟨k, rfl⟩ : ∃ G, k = G + 1 := ⟨k - 1, by omega⟩
    rw [hedgerowref12_Masks.l0, if_pos (by omega), refmatch_eq ha (wf_small (by omega) (by omega)), Option.bind_some, masksL_step qa qn i (by omega)]
    have e : Go.RowKit.wrap64 ((i : Int) + 1) = ((i + 1 : Nat) : Int) := by rw [IntWalk.wrap64_in _ (by omega)]; omega
    by_cases hm : mt qa qn (i : Int) = true
    · rw [if_pos hm, if_pos (by omega), if_pos hm, e, ih (i + 1) k _ (by omega) (by omega) (by simp; omega), List.append_assoc]; rfl
    · rw [if_neg hm, if_neg hm, e, ih (i + 1) k _ (by omega) (by omega) (by omega)]
theorem refmasks_eq {qa : Int} (ha : wfI qa) (qn : Int) : hedgerowref12_Masks.f 40 qa qn = some (masksL qa qn 0) := by
  unfold hedgerowref12_Masks.f
  have := refmasks_l0 ha qn 32 0 40 [] (by omega) (by omega) (by simp)
  simpa using this
theorem masksL_len (qa qn : Int) : (masksL qa qn 0).length ≤ 32 := by
  unfold masksL
  rw [List.length_map]
  exact Nat.le_trans (List.length_filter_le _ _) (by simp)
theorem same_l0 (l : List Int) (hl : l.length < 1000000) : ∀ (d i k : Nat), i + d = l.length → d < k → hedgerowlaw12_same.l0 k l l (i : Int) = some true := by
  intro d
  induction d with
  | zero =>
    intro i k hi hk
    obtain ⟨k, rfl⟩ : ∃ G, k = G + 1 := ⟨k - 1, by omega⟩
    rw [hedgerowlaw12_same.l0, if_neg (by omega)]
  | succ d ih =>
    intro i k hi hk
    obtain ⟨k, rfl⟩ : ∃ G, k = G + 1 := ⟨k - 1, by omega⟩
    have e : Go.RowKit.wrap64 ((i : Int) + 1) = ((i + 1 : Nat) : Int) := by rw [IntWalk.wrap64_in _ (by omega)]; omega
    rw [hedgerowlaw12_same.l0, if_pos (by omega), if_pos (by omega), if_pos (by omega), if_pos rfl, e, ih (i + 1) k (by omega) (by omega)]
theorem same_eq (l : List Int) (hl : l.length < 1000000) : hedgerowlaw12_same.f (l.length + 1) l l = some true := by
  unfold hedgerowlaw12_same.f
  rw [if_pos rfl]
  exact same_l0 l hl l.length 0 (l.length + 1) (by omega) (by omega)
end Go.Proofs.Ythcgiacjmfmamaa.PA

namespace Go.Proofs.Ythcgiacjmfmamaa.PA
set_option linter.unusedVariables false
set_option linter.unusedSimpArgs false
open Go.ChangeShapes Go.WideShapes Go.Deep Go.RowKit Go.Proofs.YthcgiacjmfmamaaW.PrintWords
section
variable {H : Type} {enc : TypeId × Value → H} {w : World} {base : Nat} {spare : Nat → Bool} {held : Bool}
set_option maxRecDepth 100000 in
theorem trod_i {n : Nat} {v : Value} {y : DataW H × List MemPlace} (h : DataW.trod enc Try.prog w base spare held n 3 [v] = some y) : ∃ a : Int, v = .int .i64 a ∧ wfI a := by
  obtain ⟨a, e, _, hw⟩ := DataW.trod_int Try.underlying3 h
  exact ⟨a, by simpa using e, hw⟩
set_option maxRecDepth 100000 in
theorem open_query {r : Reach} {b0 : Nat} {v : Value} {d : DataW H} {p : List MemPlace} (hv : Value.okWide Try.prog w r b0 23 v) (h : DataW.Trod enc Try.prog w base spare held 23 v d p) :
    ∃ a b : Int, v = .agg #[.int .i64 a, .int .i64 b] ∧ wfI a ∧ wfI b := by
  obtain ⟨v0, v1, y0, y1, n, rfl, _, _, t0, t1⟩ := Go.Joins.open_agg2 Try.underlying23 (by kernel_rfl) (by kernel_rfl) hv h
  obtain ⟨a, rfl, ha⟩ := trod_i t0
  obtain ⟨b, rfl, hb⟩ := trod_i t1
  exact ⟨a, b, rfl, ha, hb⟩
set_option maxRecDepth 100000 in
theorem open_place {r : Reach} {b0 : Nat} {v : Value} {d : DataW H} {p : List MemPlace} (hv : Value.okWide Try.prog w r b0 42 v) (h : DataW.Trod enc Try.prog w base spare held 42 v d p) :
    ∃ a b c : Int, v = .agg #[.int .i64 a, .int .i64 b, .int .i64 c] ∧ wfI a ∧ wfI b ∧ wfI c := by
  obtain ⟨v0, v1, v2, y0, y1, y2, n, rfl, _, _, t0, t1, t2⟩ := Go.Joins.open_agg3 Try.underlying42 (by kernel_rfl) (by kernel_rfl) hv h
  obtain ⟨a, rfl, ha⟩ := trod_i t0
  obtain ⟨b, rfl, hb⟩ := trod_i t1
  obtain ⟨c, rfl, hc⟩ := trod_i t2
  exact ⟨a, b, c, rfl, ha, hb, hc⟩
set_option maxRecDepth 100000 in
theorem open_rect {r : Reach} {b0 : Nat} {v : Value} {d : DataW H} {p : List MemPlace} (hv : Value.okWide Try.prog w r b0 31 v) (h : DataW.Trod enc Try.prog w base spare held 31 v d p) :
    ∃ a b c e : Int, v = .agg #[.int .i64 a, .int .i64 b, .int .i64 c, .int .i64 e] ∧ wfI a ∧ wfI b ∧ wfI c ∧ wfI e := by
  obtain ⟨v0, v1, v2, v3, y0, y1, y2, y3, n, rfl, _, _, t0, t1, t2, t3⟩ := Go.Joins.open_agg4 Try.underlying31 (by kernel_rfl) (by kernel_rfl) hv h
  obtain ⟨a, rfl, ha⟩ := trod_i t0
  obtain ⟨b, rfl, hb⟩ := trod_i t1
  obtain ⟨c, rfl, hc⟩ := trod_i t2
  obtain ⟨e, rfl, he⟩ := trod_i t3
  exact ⟨a, b, c, e, rfl, ha, hb, hc, he⟩
theorem cellsB11 : Try.prog.cellsOf 51 = 11 := by kernel_rfl
theorem list3 {α : Type} {l : List α} (h : l.length = 3) : ∃ a b c, l = [a, b, c] := by
  match l, h with
  | [a, b, c], _ => exact ⟨a, b, c, rfl⟩
theorem list11 {α : Type} {l : List α} (h : l.length = 11) : ∃ a b c d e f g i j k m, l = [a, b, c, d, e, f, g, i, j, k, m] := by
  match l, h with
  | [a, b, c, d, e, f, g, i, j, k, m], _ => exact ⟨a, b, c, d, e, f, g, i, j, k, m, rfl⟩
set_option maxRecDepth 100000 in
theorem trod_id {fuel : Nat} {cs : List Value} {x : DataW H × List MemPlace} (h : DataW.trod enc Try.prog w base spare held fuel 48 cs = some x) : ∃ y : TID, cs = [.int .i64 y.f0, .int .i64 y.f1, .int .i64 y.f2] ∧ wfID y := by
  obtain ⟨xs, n, _, _, hlen, hxl, hf⟩ := DataW.trod_struct Try.underlying48 h
  rw [cellsID] at hlen
  obtain ⟨c0, c1, c2, rfl⟩ := list3 hlen
  obtain ⟨y0, y1, y2, rfl⟩ := list3 hxl
  have t0 : DataW.trod enc Try.prog w base spare held n 3 (([c0, c1, c2].drop 0).take (Try.prog.cellsOf 3)) = some y0 := hf 0 _ rfl
  rw [cellsInt] at t0
  have t1 : DataW.trod enc Try.prog w base spare held n 3 (([c0, c1, c2].drop 1).take (Try.prog.cellsOf 3)) = some y1 := hf 1 _ rfl
  rw [cellsInt] at t1
  have t2 : DataW.trod enc Try.prog w base spare held n 3 (([c0, c1, c2].drop 2).take (Try.prog.cellsOf 3)) = some y2 := hf 2 _ rfl
  rw [cellsInt] at t2
  obtain ⟨a, rfl, ha⟩ := trod_i t0
  obtain ⟨b, rfl, hb⟩ := trod_i t1
  obtain ⟨c, rfl, hc⟩ := trod_i t2
  exact ⟨⟨a, b, c⟩, rfl, ha, hb, hc⟩
set_option maxRecDepth 100000 in
theorem trod_bundle {fuel : Nat} {cs : List Value} {x : DataW H × List MemPlace} (h : DataW.trod enc Try.prog w base spare held fuel 51 cs = some x) : ∃ y : TB, cs = (cellsB y).toList := by
  obtain ⟨xs, n, _, _, hlen, hxl, hf⟩ := DataW.trod_struct Try.underlying51 h
  rw [cellsB11] at hlen
  obtain ⟨c0, c1, c2, c3, c4, c5, c6, c7, c8, c9, c10, rfl⟩ := list11 hlen
  match xs, hxl with
  | [y0, y1, y2, y3, y4, y5, y6, y7, y8], _ =>
    have t0 : DataW.trod enc Try.prog w base spare held n 48 (([c0, c1, c2, c3, c4, c5, c6, c7, c8, c9, c10].drop 0).take (Try.prog.cellsOf 48)) = some y0 := hf 0 _ rfl
    rw [cellsID] at t0
    have t1 : DataW.trod enc Try.prog w base spare held n 3 (([c0, c1, c2, c3, c4, c5, c6, c7, c8, c9, c10].drop 3).take (Try.prog.cellsOf 3)) = some y1 := hf 1 _ rfl
    rw [cellsInt] at t1
    have t2 : DataW.trod enc Try.prog w base spare held n 3 (([c0, c1, c2, c3, c4, c5, c6, c7, c8, c9, c10].drop 4).take (Try.prog.cellsOf 3)) = some y2 := hf 2 _ rfl
    rw [cellsInt] at t2
    have t3 : DataW.trod enc Try.prog w base spare held n 3 (([c0, c1, c2, c3, c4, c5, c6, c7, c8, c9, c10].drop 5).take (Try.prog.cellsOf 3)) = some y3 := hf 3 _ rfl
    rw [cellsInt] at t3
    have t4 : DataW.trod enc Try.prog w base spare held n 3 (([c0, c1, c2, c3, c4, c5, c6, c7, c8, c9, c10].drop 6).take (Try.prog.cellsOf 3)) = some y4 := hf 4 _ rfl
    rw [cellsInt] at t4
    have t5 : DataW.trod enc Try.prog w base spare held n 3 (([c0, c1, c2, c3, c4, c5, c6, c7, c8, c9, c10].drop 7).take (Try.prog.cellsOf 3)) = some y5 := hf 5 _ rfl
    rw [cellsInt] at t5
    have t6 : DataW.trod enc Try.prog w base spare held n 3 (([c0, c1, c2, c3, c4, c5, c6, c7, c8, c9, c10].drop 8).take (Try.prog.cellsOf 3)) = some y6 := hf 6 _ rfl
    rw [cellsInt] at t6
    have t7 : DataW.trod enc Try.prog w base spare held n 3 (([c0, c1, c2, c3, c4, c5, c6, c7, c8, c9, c10].drop 9).take (Try.prog.cellsOf 3)) = some y7 := hf 7 _ rfl
    rw [cellsInt] at t7
    have t8 : DataW.trod enc Try.prog w base spare held n 3 (([c0, c1, c2, c3, c4, c5, c6, c7, c8, c9, c10].drop 10).take (Try.prog.cellsOf 3)) = some y8 := hf 8 _ rfl
    rw [cellsInt] at t8
    obtain ⟨id, e0, _⟩ := trod_id t0
    obtain ⟨a1, rfl, _⟩ := trod_i t1
    obtain ⟨a2, rfl, _⟩ := trod_i t2
    obtain ⟨a3, rfl, _⟩ := trod_i t3
    obtain ⟨a4, rfl, _⟩ := trod_i t4
    obtain ⟨a5, rfl, _⟩ := trod_i t5
    obtain ⟨a6, rfl, _⟩ := trod_i t6
    obtain ⟨a7, rfl, _⟩ := trod_i t7
    obtain ⟨a8, rfl, _⟩ := trod_i t8
    simp at e0
    obtain ⟨rfl, rfl, rfl⟩ := e0
    exact ⟨⟨id, a1, a2, a3, a4, a5, a6, a7, a8⟩, rfl⟩
set_option maxRecDepth 100000 in
theorem open_bundles {r : Reach} {b0 : Nat} {v : Value} {d : DataW H} {p : List MemPlace} (hv : Value.okWide Try.prog w r b0 29 v) (h : DataW.Trod enc Try.prog w base spare held 29 v d p) :
    ∃ (A : Option Addr) (c : Nat) (l : List TB), v = .slice A l.length c ∧ Kd.C k51 w A l.length l := by
  obtain ⟨A, len, cap, rfl⟩ := okWide_slice Try.underlying29 hv
  obtain ⟨fuel, hf⟩ := h
  rcases open_slice Try.underlying29 hf with ⟨hcs, _⟩ | ⟨a, len', cap', m, n, D, Pl, hcs, _, hl, hm, hmm, _, hi⟩
  · simp [Value.cells] at hcs
    obtain ⟨rfl, rfl, rfl⟩ := hcs
    exact ⟨none, 0, [], rfl, Kd.C_nil _ _⟩
  · simp [Value.cells] at hcs
    obtain ⟨rfl, rfl, rfl⟩ := hcs
    have hlm : len ≤ m := by rw [hmm]; split <;> omega
    have hx : ∀ i, ∃ y : TB, i < len → ∀ j u, (cellsB y).toList[j]? = some u → w.cell? (a.add (i * 11 + j)) = some u := by
      intro i
      by_cases hlt : i < len
      · obtain ⟨cs', hc, ht⟩ := hi i (by omega)
        obtain ⟨y, rfl⟩ := trod_bundle ht
        rw [cellsB11] at hc
        obtain ⟨_, _, hat⟩ := World.cells?_some hc
        refine ⟨y, fun _ j u hu => ?_⟩
        have hj : j < 11 := (List.getElem?_eq_some_iff.1 hu).1
        rw [← Go.Deep.add_add, hat j hj, hu]
      · exact ⟨z0, fun hh => absurd hh hlt⟩
    obtain ⟨Y, hY⟩ := Classical.skolem.1 hx
    have hL : ((List.range len).map Y).length = len := by simp
    refine ⟨some a, cap, (List.range len).map Y, by rw [hL], ?_⟩
    rw [hL]
    refine ⟨hL, by unfold maxLen at hm; omega, fun _ => ⟨a, rfl, fun j q hj => ⟨(cellsB q).toList, rfl, k51_mk w q, fun i u hu => ?_⟩⟩⟩
    have hjl : j < len := by
      have := (List.getElem?_eq_some_iff.1 hj).1
      omega
    rw [List.getElem?_map, List.getElem?_range hjl] at hj
    have hq : Y j = q := by simpa using hj
    rw [← hq] at hu
    exact hY j hjl i u hu
end
theorem own_kn : ownKnob Try.prog.godebug = none := by kernel_rfl
end Go.Proofs.Ythcgiacjmfmamaa.PA
