/-
  The law QueryOrder returns true for every input, and its arguments read behind the call as before: no condition.
-/
import Derived.Test.YthcgiacjmfmamaaMN
import Derived.Test.YthcgiacjmfmamaaML
import Derived.Test.YthcgiacjmfmamaaMC
import Derived.Test.YthcgiacjmfmamaaMW
namespace Go.Proofs.Ythcgiacjmfmamaa.PA
set_option linter.unusedVariables false
set_option linter.unusedSimpArgs false
open Go.RowKit Go.Shelf Go.Proofs.YthcgiacjmfmamaaW.PrintWords
/-- An entity with the last generation there is. -/
def gx (x : TB) : TB := ⟨⟨x.f0.f0, x.f0.f1, 1048575⟩, x.f1, x.f2, x.f3, x.f4, x.f5, x.f6, x.f7, x.f8⟩
theorem gx_same {x : TB} (h : (gx x).f0 = x.f0) : gx x = x := by
  obtain ⟨⟨a, b, c⟩, d1, d2, d3, d4, d5, d6, d7, d8⟩ := x
  simp [gx] at h ⊢
  exact h
theorem inT_add {T : Nat → List TB} {x : TB} (h : x.f1.toNat < 32) (id : TID) : inT (addT T x) id ↔ x.f0 = id ∨ inT T id := by
  have hp := toL_add T x h
  constructor
  · rintro ⟨y, hy, rfl⟩
    rcases List.mem_cons.1 (hp.mem_iff.1 hy) with e | e
    · exact .inl (by rw [e])
    · exact .inr ⟨y, e, rfl⟩
  · rintro (e | ⟨y, hy, rfl⟩)
    · exact ⟨x, hp.mem_iff.2 List.mem_cons_self, e⟩
    · exact ⟨y, hp.mem_iff.2 (List.mem_cons_of_mem _ hy), rfl⟩
theorem drop_notin {M : List TB} (hd : Dist M) {T : Nat → List TB} {i : Nat} (h : i < M.length) (hp : (toL T).Perm (M.drop (i + 1))) : ¬ inT T M[i].f0 := by
  rintro ⟨y, hy, e⟩
  have hy2 := hp.mem_iff.1 hy
  have h1 : (M[i] :: M.drop (i + 1)).Pairwise fun x y => x.f0 ≠ y.f0 := by
    rw [← List.drop_eq_getElem_cons h]
    exact hd.drop
  exact (List.pairwise_cons.1 h1).1 y hy2 e.symm
theorem below_k {w2 wr w' : World} (h : Below w2.heap.size w2 wr) (hK : Keeps w2.heap.size wr w') : Below w2.heap.size w2 w' := below_keeps h hK
theorem mask_lt {M : List TB} (h : Mlist M) {i : Nat} (hi : i < M.length) : M[i].f1.toNat < 32 := by
  have := (h.ok _ (List.getElem_mem hi)).1
  omega
set_option maxRecDepth 100000 in
set_option maxHeartbeats 8000000 in
theorem laworder_x (w : World) (A0 : Option Addr) (c0 : Nat) (l0 : List TB) (hC0 : Kd.C k51 w A0 l0.length l0) (qa qn px py dd : Int) :
    Calls Try.prog 11 #[.slice A0 l0.length c0, .agg #[.int .i64 qa, .int .i64 qn], .agg #[.int .i64 px, .int .i64 py, .int .i64 dd]] w fun e w' => e = .returned (.bool true) ∧ Below w.heap.size w w' := by
  obtain ⟨w1, hw1⟩ : ∃ w1, w1 = (w.alloc (.cells #[.int .i64 qa, .int .i64 qn] 23)).alloc (.cells #[.int .i64 px, .int .i64 py, .int .i64 dd] 42) := ⟨_, rfl⟩
  have hb1 : Below w.heap.size w w1 := by rw [hw1]; exact below_alloc (below_alloc (Below.refl _ _) _) _
  have hC1 := Kd.C_below hC0 hb1
  have bq : w1.heap[w.heap.size]? = some (.cells #[.int .i64 qa, .int .i64 qn] 23 (0, 0)) := by rw [hw1, heap_old _ _ _ (by simp)]; exact heap_alloc_new w _
  have br : w1.heap[w.heap.size + 1]? = some (.cells #[.int .i64 px, .int .i64 py, .int .i64 dd] 42 (0, 0)) := by
    rw [hw1]
    have := heap_alloc_new (w.alloc (.cells #[.int .i64 qa, .int .i64 qn] 23)) (.cells #[.int .i64 px, .int .i64 py, .int .i64 dd] 42)
    rw [World.size_alloc] at this; exact this
  have e0 : w1.cell? ⟨w.heap.size, 0, none⟩ = some (.int .i64 qa) := (blk_cell bq 0).trans rfl
  have e1 : w1.cell? ⟨w.heap.size, 1, none⟩ = some (.int .i64 qn) := (blk_cell bq 1).trans rfl
  have e2 : w1.cell? ⟨w.heap.size + 1, 0, none⟩ = some (.int .i64 px) := (blk_cell br 0).trans rfl
  have e3 : w1.cell? ⟨w.heap.size + 1, 1, none⟩ = some (.int .i64 py) := (blk_cell br 1).trans rfl
  have e4 : w1.cell? ⟨w.heap.size + 1, 2, none⟩ = some (.int .i64 dd) := (blk_cell br 2).trans rfl
  have hma := lawmade_x w1 A0 c0 l0 hC1
  have HB1 := Aside0.mk hb1
  clear hC0 hC1 bq br hb1
  go_enter Try.func11, Try.ntmps11
  go_wp2_with fail
  rw [← hw1]
  clear hw1
  refine hma.mono ?_
  rintro e w2 ⟨b, A, c, L, rfl, hb2, hM⟩
  obtain ⟨M, hMe⟩ : ∃ M, M = madeL (l0.take 60) := ⟨_, rfl⟩
  rw [← hMe] at hM ⊢
  have hml := hM.lst.len
  have HCK : Aside0 (∀ y ∈ M, chk y = 0) := Aside0.mk (by rw [hMe]; exact foldl_ok _ [] (fun _ h => by cases h))
  have HM := Aside0.mk hM
  have HB2 := Aside0.mk (HB1.out.trans (hb2.mono HB1.out.size))
  have E0 := Aside0.mk (cell_b hb2 e0)
  have E1 := Aside0.mk (cell_b hb2 e1)
  have E2 := Aside0.mk (cell_b hb2 e2)
  have E3 := Aside0.mk (cell_b hb2 e3)
  have E4 := Aside0.mk (cell_b hb2 e4)
  clear hma hMe hM e0 e1 e2 e3 e4 hb2
  go_wp2_with fail
  refine (sto_new w2).mono ?_
  rintro e w3 ⟨b2, rfl, hb3, hS3⟩
  have HB3 := Aside0.mk hb3
  have HS3 := Aside0.mk hS3
  clear hb3 hS3
  go_wp2
  go_loopw [10] (fun v10 wr => ∃ (j : Nat) (T : Nat → List TB), v10 = .int .i64 ((j : Int) - 1) ∧ j ≤ M.length ∧ Aside0 (Sto wr w2.heap.size b2 T) ∧ Aside0 ((toL T).Perm (M.drop j)) ∧ Aside0 (Below w2.heap.size w2 wr)) (fun v10 _ => (intOf v10 + 1).toNat)
  case atStart => exact ⟨M.length, fun _ => [], rfl, Nat.le_refl _, HS3, ⟨by rw [List.drop_length]; exact List.Perm.refl _⟩, HB3⟩
  case round =>
    clear HS3 HB3
    obtain ⟨j, T, rfl, hj, HS, HP, HW⟩ := hrel
    cases j with
    | zero =>
      have hm1 : (((0 : Nat) : Int) - 1) = -1 := rfl
      rw [hm1]
      have hpm : (toL T).Perm M := by have := HP.out; rwa [List.drop_zero] at this
      have hmt : Mst wr b2 A c (toL T) M := ⟨⟨w2.heap.size, .inr ⟨b2, T, rfl, HS.out, rfl⟩⟩, hpm, HM.out.lst, Kd.C_below HM.out.row HW.out, HM.out.cap⟩
      have hms := HM.out.below HW.out
      have HMT := Aside0.mk hmt
      have HMS := Aside0.mk hms
      have E0r := Aside0.mk (cell_b HW.out E0.out)
      have E1r := Aside0.mk (cell_b HW.out E1.out)
      have E2r := Aside0.mk (cell_b HW.out E2.out)
      have E3r := Aside0.mk (cell_b HW.out E3.out)
      have E4r := Aside0.mk (cell_b HW.out E4.out)
      clear hm1 hpm hmt hms E0 E1 E2 E3 E4 HM HCK HS
      go_wp2_with fail
      refine (law_len wr HMT.out rfl).mono ?_
      rintro e w4 ⟨rfl, hb4⟩
      have HMT4 := Aside0.mk (HMT.out.below hb4)
      have HMS4 := Aside0.mk (HMS.out.below hb4)
      have E04 := Aside0.mk (cell_b hb4 E0r.out)
      have E14 := Aside0.mk (cell_b hb4 E1r.out)
      have E24 := Aside0.mk (cell_b hb4 E2r.out)
      have E34 := Aside0.mk (cell_b hb4 E3r.out)
      have E44 := Aside0.mk (cell_b hb4 E4r.out)
      have HW4 := Aside0.mk (HW.out.trans (hb4.mono HW.out.size))
      clear hb4 HMT HMS E0r E1r E2r E3r E4r
      go_wp2_with fail
      refine (law_len w4 HMS4.out rfl).mono ?_
      rintro e w5 ⟨rfl, hb5⟩
      have HMT := Aside0.mk (HMT4.out.below hb5)
      have HMS := Aside0.mk (HMS4.out.below hb5)
      have E0 := Aside0.mk (cell_b hb5 E04.out)
      have E1 := Aside0.mk (cell_b hb5 E14.out)
      have E2 := Aside0.mk (cell_b hb5 E24.out)
      have E3 := Aside0.mk (cell_b hb5 E34.out)
      have E4 := Aside0.mk (cell_b hb5 E44.out)
      have HW5 := Aside0.mk (HB2.out.trans ((HW4.out.trans (hb5.mono HW4.out.size)).mono HB2.out.size))
      clear hb5 HMT4 HMS4 E04 E14 E24 E34 E44 HW4
      obtain ⟨n1, hn1⟩ : ∃ n1, n1 = (ofI qa qn M).map (·.f0) := ⟨_, rfl⟩
      obtain ⟨n2, hn2⟩ : ∃ n2, n2 = (nearI qa qn px py dd M).map (·.f0) := ⟨_, rfl⟩
      have hl1 : n1.length ≤ 60 := by rw [hn1, List.length_map]; exact Nat.le_trans (ofI_len qa qn M) hml
      have hl2 : n2.length ≤ 60 := by rw [hn2, List.length_map]; exact Nat.le_trans (nearI_len qa qn px py dd M) hml
      have HN1 := Aside0.mk hn1
      have HN2 := Aside0.mk hn2
      have HL1 := Aside0.mk hl1
      have HL2 := Aside0.mk hl2
      clear hn1 hn2 hl1 hl2
      go_wp2
      go_region_held3 (fun W' => (W'.cell? ⟨w.heap.size, 0, none⟩ = some (.int .i64 qa) ∧ W'.cell? ⟨w.heap.size, 1, none⟩ = some (.int .i64 qn) ∧ W'.cell? ⟨w.heap.size + 1, 0, none⟩ = some (.int .i64 px) ∧ W'.cell? ⟨w.heap.size + 1, 1, none⟩ = some (.int .i64 py) ∧ W'.cell? ⟨w.heap.size + 1, 2, none⟩ = some (.int .i64 dd)) ∧ Below w5.heap.size w5 W')
        (first | exact zk5b E0.out E1.out E2.out E3.out E4.out (by assumption) (by assumption) | exact zk5a E0.out E1.out E2.out E3.out E4.out (by first | exact Below.refl _ _ | exact below_drew (Below.refl _ _)))
        (first
          | (go_at_call 26; (with_reducible refine (law_ids _ (mst_held (by assumption) HMT.out) qa qn HN1.out).mono ?_); rintro e w' ⟨Ab, cb, rfl, hbb, hcb, hCb⟩; have HCb := Aside0.mk hCb; have Hcb := Aside0.mk hcb; have HCa2 := Aside0.mk (Kd.C_below HCa.out hbb); clear hCb hcb)
          | (go_at_call 26; (with_reducible refine (law_ids _ (mst_held (by assumption) HMS.out) qa qn HN1.out).mono ?_); rintro e w' ⟨Aa, ca, rfl, hba, hca, hCa⟩; have HCa := Aside0.mk hCa; have Hca := Aside0.mk hca; clear hCa hca)
          | (go_at_call 24; (with_reducible refine (law_near _ (mst_held (by assumption) HMT.out) qa qn px py dd HN2.out).mono ?_); rintro e w' ⟨Am, cm, rfl, hbm, hcm, hCm⟩; have HCm := Aside0.mk hCm; have Hcm := Aside0.mk hcm; have HCn2 := Aside0.mk (Kd.C_below HCn.out hbm); clear hCm hcm)
          | (go_at_call 24; (with_reducible refine (law_near _ (mst_held (by assumption) HMS.out) qa qn px py dd HN2.out).mono ?_); rintro e w' ⟨An, cn, rfl, hbn, hcn, hCn⟩; have HCn := Aside0.mk hCn; have Hcn := Aside0.mk hcn; clear hCn hcn)
          | (go_at_call 20; (with_reducible refine (law_same _ HCn2.out Hcn.out HCm.out Hcm.out (by have := HL2.out; omega)).mono ?_); rintro e w' ⟨rfl, hbs⟩)
          | (go_at_call 20; (with_reducible refine (law_same _ HCa2.out Hca.out HCb.out Hcb.out (by have := HL1.out; omega)).mono ?_); rintro e w' ⟨rfl, hbs⟩)
          | (go_at_call 18; (refine (awake_x _).mono ?_); rintro e w' ⟨rfl, hbw⟩))
      all_goals
        rename_i hS
        have hBe := Aside0.mk (HW5.out.trans (hS.2.mono HW5.out.size))
        clear hS
        go_wp2
        go_ret
        exact ⟨rfl, hBe.out⟩
    | succ i =>
      have hii : (((i + 1 : Nat) : Int) - 1) = (i : Int) := by omega
      rw [hii]
      have hlt : i < M.length := by omega
      have g1 : (i : Int) < (M.length : Int) := by omega
      have g0 : (0 : Int) ≤ (i : Int) := by omega
      have hni := drop_notin HM.out.lst.dist hlt HP.out
      have hmk := mask_lt HM.out.lst hlt
      have hok := HCK.out _ (List.getElem_mem hlt)
      have hdr : M.drop i = M[i] :: M.drop (i + 1) := List.drop_eq_getElem_cons hlt
      have hco := fun (wx : World) (hb : Below w2.heap.size w2 wx) => cells_of hb HM.out.row i hlt
      obtain ⟨x, hx⟩ : ∃ x, x = M[i] := ⟨_, rfl⟩
      rw [← hx] at hni hmk hok hdr
      have hco2 : ∀ wx : World, Below w2.heap.size w2 wx → ∃ ad, A = some ad ∧ wx.cell? (ad.add (i * 11)) = some (.int .i64 x.f0.f0) ∧ wx.cell? ⟨(ad.add (i * 11)).block, (ad.add (i * 11)).off + 1, none⟩ = some (.int .i64 x.f0.f1) ∧ wx.cell? ⟨(ad.add (i * 11)).block, (ad.add (i * 11)).off + 2, none⟩ = some (.int .i64 x.f0.f2) ∧ wx.cell? ⟨(ad.add (i * 11)).block, (ad.add (i * 11)).off + 3, none⟩ = some (.int .i64 x.f1) ∧ wx.cell? ⟨(ad.add (i * 11)).block, (ad.add (i * 11)).off + 4, none⟩ = some (.int .i64 x.f2) ∧ wx.cell? ⟨(ad.add (i * 11)).block, (ad.add (i * 11)).off + 5, none⟩ = some (.int .i64 x.f3) ∧ wx.cell? ⟨(ad.add (i * 11)).block, (ad.add (i * 11)).off + 6, none⟩ = some (.int .i64 x.f4) ∧ wx.cell? ⟨(ad.add (i * 11)).block, (ad.add (i * 11)).off + 7, none⟩ = some (.int .i64 x.f5) ∧ wx.cell? ⟨(ad.add (i * 11)).block, (ad.add (i * 11)).off + 8, none⟩ = some (.int .i64 x.f6) ∧ wx.cell? ⟨(ad.add (i * 11)).block, (ad.add (i * 11)).off + 9, none⟩ = some (.int .i64 x.f7) ∧ wx.cell? ⟨(ad.add (i * 11)).block, (ad.add (i * 11)).off + 10, none⟩ = some (.int .i64 x.f8) := fun wx hb => by rw [hx]; exact hco wx hb
      have HCO := Aside0.mk hco2
      have HNI := Aside0.mk hni
      have HDR := Aside0.mk hdr
      have HOK := Aside0.mk hok
      have hTl : (toL T).length < 900 := by rw [HP.out.length_eq, List.length_drop]; omega
      have hpc := hco2 wr HW.out
      clear hii hni hdr hok hco hx hco2
      obtain ⟨ad, hA, x0, x1, x2, x3, x4, x5, x6, x7, x8, x9, x10⟩ := hpc
      subst hA
      clear x0 x1 x2 x3 x4 x5 x6 x7 x8 x9 x10
      obtain ⟨ad2, hA2, x0, x1, x2, x3, x4, x5, x6, x7, x8, x9, x10⟩ := HCO.out wr HW.out
      cases hA2
      have hput := fun W (hS : Sto W w2.heap.size b2 T) (hs : w2.heap.size ≤ W.heap.size) => put_x W hS hs (gx x) (by omega)
      go_wp2_with fail
      clear x0 x1 x2 x3 x4 x5 x6 x7 x8 x9 x10
      obtain ⟨wa, hwa⟩ : ∃ wa, wa = wr.alloc (.cells #[.int .i64 x.f0.f0, .int .i64 x.f0.f1, .int .i64 1048575, .int .i64 x.f1, .int .i64 x.f2, .int .i64 x.f3, .int .i64 x.f4, .int .i64 x.f5, .int .i64 x.f6, .int .i64 x.f7, .int .i64 x.f8] 51) := ⟨_, rfl⟩
      rw [← hwa]
      have hba : Below wr.heap.size wr wa := by rw [hwa]; exact below_alloc (Below.refl _ _) _
      have hbx : wa.heap[wr.heap.size]? = some (.cells #[.int .i64 x.f0.f0, .int .i64 x.f0.f1, .int .i64 1048575, .int .i64 x.f1, .int .i64 x.f2, .int .i64 x.f3, .int .i64 x.f4, .int .i64 x.f5, .int .i64 x.f6, .int .i64 x.f7, .int .i64 x.f8] 51 (0, 0)) := by rw [hwa]; exact heap_alloc_new wr _
      have hka := Keeps.of_below HW.out.size hba
      have hp1 := hput wa (HS.out.below hba) (Nat.le_trans HW.out.size hba.size)
      have HKA := Aside0.mk hka
      have HBX := Aside0.mk hbx
      clear hput hwa hba hbx hka
      refine hp1.mono ?_
      rintro e w4 ⟨r1, rfl, hK4, hor⟩
      have hK4' := HKA.out.trans hK4 HW.out.size
      have hbx4 := hK4.kept _ _ HBX.out rfl
      have hW4 := below_k HW.out hK4'
      obtain ⟨ad2, hA2, x0, x1, x2, x3, x4, x5, x6, x7, x8, x9, x10⟩ := HCO.out w4 hW4
      cases hA2
      have HK4 := Aside0.mk hK4'
      have HBX4 := Aside0.mk hbx4
      have HW4 := Aside0.mk hW4
      clear hK4 hK4' hbx4 hW4 hp1
      rcases hor with ⟨rfl, hc1, hn1, hS4⟩ | ⟨hr1, hc1, hS4⟩
      · have hl1 : (toL (addT T (gx x))).length < 1000 := by rw [(toL_add T (gx x) hmk).length_eq]; simp; omega
        have hput := put_x w4 hS4 HW4.out.size x hl1
        have HN1 := Aside0.mk hn1
        clear hc1 hn1 hS4 hl1
        go_wp2_with fail
        (with_reducible refine hput.mono ?_)
        clear hput x0 x1 x2 x3 x4 x5 x6 x7 x8 x9 x10
        rintro e w5 ⟨r2, rfl, hK5, ⟨rfl, hc2, hn2, hS5⟩ | ⟨hr2, hc2, hS5⟩⟩
        · have hne : x.f0 ≠ (gx x).f0 := fun e => hn2 ((inT_add (x := gx x) hmk x.f0).2 (.inl e.symm))
          have hK5' := HK4.out.trans hK5 HW.out.size
          have hbx5 := hK5.kept _ _ HBX4.out rfl
          have hW5 := below_k HW.out hK5'
          obtain ⟨ad2, hA2, x0, x1, x2, x3, x4, x5, x6, x7, x8, x9, x10⟩ := HCO.out w5 hW5
          cases hA2
          obtain ⟨y0, y1, y2, y3, y4, y5, y6, y7, y8, y9, y10⟩ := box11 hbx5
          clear x3 x4 x5 x6 x7 x8 x9 x10 y3 y4 y5 y6 y7 y8 y9 y10
          have HK5 := Aside0.mk hK5'
          have HW5 := Aside0.mk hW5
          have HS5 := Aside0.mk hS5
          have hge : ((1048575 : Int) == x.f0.f2) = false := by
            have : (1048575 : Int) ≠ x.f0.f2 := fun e => hne (by simp [gx, e])
            simpa using this
          clear hK5 hK5' hbx5 hW5 hS5 hc2 hn2 hne
          go_wp2_with fail
          go_quiet (fail)
          clear x0 x1 x2
          have y0' := (World.cell?_drewN w5 nq _).trans y0
          have hbd := pw_below_drewN (Below.refl w5.heap.size w5) nq
          have hl2 : (toL (addT (addT T (gx x)) x)).length < 1000 := by rw [(toL_add _ x hmk).length_eq, List.length_cons, (toL_add T (gx x) hmk).length_eq]; simp; omega
          have hrem := remove_yes (w5.drewN nq) (HS5.out.below hbd) (Nat.le_trans HW5.out.size hbd.size) hl2 (gx x) ((toL_add (addT T (gx x)) x hmk).mem_iff.2 (List.mem_cons_of_mem _ ((toL_add T (gx x) hmk).mem_iff.2 List.mem_cons_self)))
          have HBD := Aside0.mk hbd
          clear hbd hl2 hge
          go_wp2_with fail
          refine hrem.mono ?_
          rintro e w6 ⟨rfl, hK6, T6, hS6, hP6⟩
          have hP : (toL T6).Perm (M.drop i) := by
            have h1 := hP6.trans (toL_add (addT T (gx x)) x hmk)
            have h2 : (x :: toL (addT T (gx x))).Perm (gx x :: x :: toL T) := ((toL_add T (gx x) hmk).cons x).trans (List.Perm.swap _ _ _)
            rw [HDR.out]
            exact (List.Perm.cons_inv (h1.trans h2)).trans (HP.out.cons x)
          have HP6 := Aside0.mk hP
          have HS6 := Aside0.mk hS6
          have HW6 := Aside0.mk (below_k HW.out (((HK5.out.trans (Keeps.of_below HW5.out.size HBD.out) HW.out.size)).trans hK6 HW.out.size))
          clear hrem hK6 hS6 hP6 hP y0' y1 y2 y0
          go_wp2
          go_roundw
          case rel => exact ⟨i, T6, by go_num, by omega, HS6, HP6, HW6⟩
          case measure => simp [intOf]
        · have hin : inT (addT T (gx x)) x.f0 := by
            rcases hc2 with h | h
            · exact absurd HOK.out h
            · exact h
          have hge : gx x = x := by
            rcases (inT_add (x := gx x) hmk x.f0).1 hin with h | h
            · exact gx_same h
            · exact absurd h HNI.out
          have hrb : (r2 == 0) = false := by simpa using hr2
          have hrb2 : (r2 != 0) = true := by simpa using hr2
          have HS5 := Aside0.mk hS5
          have HW5 := Aside0.mk (below_k HW.out (HK4.out.trans hK5 HW.out.size))
          have HGE := Aside0.mk hge
          clear hK5 hS5 hc2 hr2 hin hge
          go_wp2
          go_roundw
          case rel => exact ⟨i, addT T (gx x), by go_num, by omega, HS5, ⟨by rw [HDR.out]; have h3 := toL_add T (gx x) hmk; rw [HGE.out] at h3 ⊢; exact h3.trans (HP.out.cons x)⟩, HW5⟩
          case measure => simp [intOf]
      · have hput := put_x w4 hS4 HW4.out.size x (by omega)
        clear hc1 hS4
        go_wp2_with fail
        (with_reducible refine hput.mono ?_)
        clear hput x0 x1 x2 x3 x4 x5 x6 x7 x8 x9 x10
        rintro e w5 ⟨r2, rfl, hK5, ⟨rfl, hc2, hn2, hS5⟩ | ⟨hr2, hc2, hS5⟩⟩
        · have hrb : (r1 == 0) = false := by simpa using hr1
          have HS5 := Aside0.mk hS5
          have HW5 := Aside0.mk (below_k HW.out (HK4.out.trans hK5 HW.out.size))
          have HP5 := Aside0.mk (show (toL (addT T x)).Perm (M.drop i) by rw [HDR.out]; exact (toL_add T x hmk).trans (HP.out.cons x))
          clear hK5 hS5 hc2 hn2 hr1
          go_wp2_with fail
          go_quiet (fail)
          go_wp2
          go_roundw
          case rel => exact ⟨i, addT T x, by go_num, by omega, ⟨HS5.out.below (pw_below_drewN (Below.refl _ _) _)⟩, HP5, ⟨pw_below_drewN HW5.out _⟩⟩
          case measure => simp [intOf]
        · exfalso
          rcases hc2 with h | h
          · exact h HOK.out
          · exact HNI.out h
end Go.Proofs.Ythcgiacjmfmamaa.PA

namespace Go.Proofs.Ythcgiacjmfmamaa.QueryOrder
open Go.ChangeShapes Go.WideShapes Go.ChangeAt Go.RowKit
open Go.ChangeMaps (open_string shut_string)
set_option linter.unusedVariables false
set_option maxRecDepth 100000 in
theorem lifted (os : Os) (started : os.Started) (H : Type) (enc : TypeId × Value → H) :
    ReturnsInHanded {} Try.checked os 11 .any (Rows.queryOrderSpec.pre6 enc Try.prog Try.f11 Rows.queryOrderRow.domain false) (Rows.queryOrderSpec.post enc Try.prog Try.f11 false true false false) := by
  refine returnsInHanded_of_change_sized (C := Try.checked) PA.own_kn started (by kernel_rfl) Try.func11
    (ChangeSpec.witness6 (enc := enc) (C := Try.checked) false ⟨#[], #[.slice none 0 0, .agg #[.int .i64 0, .int .i64 0], .agg #[.int .i64 0, .int .i64 0, .int .i64 0]], []⟩ 8 (by kernel_rfl) (by kernel_rfl) (by kernel_rfl) (by kernel_rfl)) ?_
  intro W base args ds gs before hval0 hW hcnd hsz0 _
  have hval : ∀ (j : Nat) t v, Try.f11.params[j]? = some t → args[j]? = some v → Value.okWide Try.prog W .any base t v := hval0
  have hW' := hW
  obtain ⟨p, q, hA0, hV, rfl, hfz, hnd⟩ := hW
  have hA : DataW.TrodAll enc Try.prog W 0 (fun _ => true) true Try.f11.params.toList args.toList ds p := hA0
  rw [Try.params11] at hA hval
  obtain ⟨v0, vs0, d0, ds0, p0, q0, hargs, rfl, rfl, h0, r0⟩ := trodAll_cons hA
  obtain ⟨v1, vs1, d1, ds1, p1, q1, rfl, rfl, rfl, h1, r1⟩ := trodAll_cons r0
  obtain ⟨v2, vs2, d2, ds2, p2, q2, rfl, rfl, rfl, h2, r2⟩ := trodAll_cons r1
  obtain ⟨rfl, rfl, rfl⟩ := trodAll_nil r2
  obtain rfl : args = #[v0, v1, v2] := by cases args; simp_all
  obtain ⟨rfl, rfl⟩ := trodVars_none hV
  have k0 := h0
  have lt0 : ∀ x ∈ p0, x.block < W.heap.size := by obtain ⟨m, hm⟩ := k0; exact DataW.trod_lt m _ _ _ hm
  obtain ⟨A0, c0, l0, rfl, hC0⟩ := PA.open_bundles (hval 0 29 v0 rfl rfl) h0
  have k1 := h1
  have lt1 : ∀ x ∈ p1, x.block < W.heap.size := by obtain ⟨m, hm⟩ := k1; exact DataW.trod_lt m _ _ _ hm
  obtain ⟨qa1, qn1, rfl, ha1, hn1⟩ := PA.open_query (hval 1 23 v1 rfl rfl) h1
  have k2 := h2
  have lt2 : ∀ x ∈ p2, x.block < W.heap.size := by obtain ⟨m, hm⟩ := k2; exact DataW.trod_lt m _ _ _ hm
  obtain ⟨px2, py2, pd2, rfl, wx2, wy2, wd2⟩ := PA.open_place (hval 2 42 v2 rfl rfl) h2
  clear hA0 hval0 hsz0
  refine (PA.laworder_x W A0 c0 l0 hC0 qa1 qn1 px2 py2 pd2).mono fun e W' ⟨he, bel⟩ => ?_
  subst he
  exact ⟨_, rfl, _, _, _, [], _, [], hW', trodAll_mk1 (shut_bool Try.underlying4 _), (trodAll_cons_mk (Below.trod PA.laidOut (by kernel_rfl) (of_decide_eq_true (by kernel_rfl)) k0 bel lt0) (trodAll_cons_mk (Below.trod PA.laidOut (by kernel_rfl) (of_decide_eq_true (by kernel_rfl)) k1 bel lt1) (trodAll_cons_mk (Below.trod PA.laidOut (by kernel_rfl) (of_decide_eq_true (by kernel_rfl)) k2 bel lt2) trodAll_mk0))), rfl, bel.frame _, fun h => by cases h⟩
theorem over : Rows.queryOrderRow.holds Try.pinned (OpenSpec.ofChange Rows.queryOrderSpec) :=
  OpenClaim.holds_of_wide 11 Try.f11 rfl rfl rfl rfl rfl rfl rfl ⟨rfl, rfl, rfl, rfl, rfl⟩ rfl rfl rfl rfl rfl (by kernel_rfl) Try.func11 (by kernel_rfl)
    (of_decide_eq_true (by kernel_rfl)) (by unfold Func.isWrapper; first | (rw [if_pos (by decide +kernel)]; kernel_rfl) | (rw [if_neg (by decide +kernel)]; exact ⟨rfl, rfl⟩))
    (fun os started H enc _ => lifted os started H enc)
theorem proved : Rows.QueryOrderSaid := over
#print axioms proved
end Go.Proofs.Ythcgiacjmfmamaa.QueryOrder
namespace Go.Proofs.Ythcgiacjmfmamaa
theorem queryOrder_holds : Rows.QueryOrderSaid := QueryOrder.proved
end Go.Proofs.Ythcgiacjmfmamaa
