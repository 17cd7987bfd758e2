/-
  The law QueryFars returns true for every input, and its arguments read behind the call as before: no condition.
-/
import Derived.Test.YthcgiacjmfmamaaML
import Derived.StillTailTactics
import Derived.Test.YthcgiacjmfmamaaMN
import Derived.Test.YthcgiacjmfmamaaMW
namespace Go.Proofs.Ythcgiacjmfmamaa.PA
set_option linter.unusedVariables false
set_option linter.unusedSimpArgs false
open Go.RowKit Go.Shelf Go.Proofs.YthcgiacjmfmamaaW.PrintWords
theorem Sto.find {w : World} {base b : Nat} {T : Nat → List TB} (h : Sto w base b T) {x : TB} (hx : x ∈ toL T) : ∃ m r, ∃ hm : m < 32, ∃ hr : r < (T m).length, (T m)[r] = x ∧ ∃ mb f, w.cell? ⟨b, 256, none⟩ = some (.map (some mb)) ∧ PMap w mb (toL T).length f ∧ f x.f0 = some ((m : Int), (r : Int)) := by
  obtain ⟨⟨mb, sv, f, ow, hR, hl⟩, hk⟩ := h
  obtain ⟨m, hm, hxm⟩ := mem_toL.1 hx
  obtain ⟨r, hr⟩ := List.getElem?_of_mem hxm
  obtain ⟨hr1, hr2⟩ := List.getElem?_eq_some_iff.1 hr
  exact ⟨m, r, hm, hr1, hr2, mb, f, hR.mcell, hR.map, hl.here m r x hm hr⟩
theorem put11_new {w : World} {g t : Nat} (x : TB) {v0 v1 v2 v3 v4 v5 v6 v7 v8 v9 v10 : Value} (h : w.heap[g]? = some (.cells #[v0, v1, v2, v3, v4, v5, v6, v7, v8, v9, v10] t (0, 0))) :
    (((((((((((w.setCell ⟨g, 0, none⟩ (.int .i64 x.f0.f0)).setCell ⟨g, 1, none⟩ (.int .i64 x.f0.f1)).setCell ⟨g, 2, none⟩ (.int .i64 x.f0.f2)).setCell ⟨g, 3, none⟩ (.int .i64 x.f1)).setCell ⟨g, 4, none⟩ (.int .i64 x.f2)).setCell ⟨g, 5, none⟩ (.int .i64 x.f3)).setCell ⟨g, 6, none⟩ (.int .i64 x.f4)).setCell ⟨g, 7, none⟩ (.int .i64 x.f5)).setCell ⟨g, 8, none⟩ (.int .i64 x.f6)).setCell ⟨g, 9, none⟩ (.int .i64 x.f7)).setCell ⟨g, 10, none⟩ (.int .i64 x.f8)).heap[g]? = some (.cells #[.int .i64 x.f0.f0, .int .i64 x.f0.f1, .int .i64 x.f0.f2, .int .i64 x.f1, .int .i64 x.f2, .int .i64 x.f3, .int .i64 x.f4, .int .i64 x.f5, .int .i64 x.f6, .int .i64 x.f7, .int .i64 x.f8] t (0, 0)) := by
  have h1 := blk_set (blk_set (blk_set (blk_set (blk_set (blk_set (blk_set (blk_set (blk_set (blk_set (blk_set (h) 0 (.int .i64 x.f0.f0)) 1 (.int .i64 x.f0.f1)) 2 (.int .i64 x.f0.f2)) 3 (.int .i64 x.f1)) 4 (.int .i64 x.f2)) 5 (.int .i64 x.f3)) 6 (.int .i64 x.f4)) 7 (.int .i64 x.f5)) 8 (.int .i64 x.f6)) 9 (.int .i64 x.f7)) 10 (.int .i64 x.f8)
  simp only [List.setIfInBounds_toArray, List.set_cons_zero, List.set_cons_succ] at h1
  exact h1
theorem put11_b {a w : World} {B g : Nat} (x : TB) (h : Below B a w) (hg : B ≤ g) : Below B a (((((((((((w.setCell ⟨g, 0, none⟩ (.int .i64 x.f0.f0)).setCell ⟨g, 1, none⟩ (.int .i64 x.f0.f1)).setCell ⟨g, 2, none⟩ (.int .i64 x.f0.f2)).setCell ⟨g, 3, none⟩ (.int .i64 x.f1)).setCell ⟨g, 4, none⟩ (.int .i64 x.f2)).setCell ⟨g, 5, none⟩ (.int .i64 x.f3)).setCell ⟨g, 6, none⟩ (.int .i64 x.f4)).setCell ⟨g, 7, none⟩ (.int .i64 x.f5)).setCell ⟨g, 8, none⟩ (.int .i64 x.f6)).setCell ⟨g, 9, none⟩ (.int .i64 x.f7)).setCell ⟨g, 10, none⟩ (.int .i64 x.f8)) := (((((((((((h.setCell (p := ⟨g, 0, none⟩) hg _).setCell (p := ⟨g, 1, none⟩) hg _).setCell (p := ⟨g, 2, none⟩) hg _).setCell (p := ⟨g, 3, none⟩) hg _).setCell (p := ⟨g, 4, none⟩) hg _).setCell (p := ⟨g, 5, none⟩) hg _).setCell (p := ⟨g, 6, none⟩) hg _).setCell (p := ⟨g, 7, none⟩) hg _).setCell (p := ⟨g, 8, none⟩) hg _).setCell (p := ⟨g, 9, none⟩) hg _).setCell (p := ⟨g, 10, none⟩) hg _)
set_option maxRecDepth 100000 in
set_option maxHeartbeats 4000000 in
theorem get_x (w : World) {base b : Nat} {T : Nat → List TB} (h : Sto w base b T) (hlen : (toL T).length < 1000) (x : TB) (hx : x ∈ toL T) :
    Calls Try.prog 27 #[.pointer (some ⟨b, 0, none⟩), .agg #[.int .i64 x.f0.f0, .int .i64 x.f0.f1, .int .i64 x.f0.f2]] w fun e w' => e = .returned (.tuple #[.agg #[.int .i64 x.f0.f0, .int .i64 x.f0.f1, .int .i64 x.f0.f2, .int .i64 x.f1, .int .i64 x.f2, .int .i64 x.f3, .int .i64 x.f4, .int .i64 x.f5, .int .i64 x.f6, .int .i64 x.f7, .int .i64 x.f8], .bool true]) ∧ Below w.heap.size w w' := by
  obtain ⟨m, r, hm, hr, hxe, mb, f, hmc, hmp, hf⟩ := h.find hx
  have hwf := ((h.mem hx).1).wf
  have hs : (f x.f0).isSome = true := by rw [hf]; rfl
  have hlook : ∀ W : World, W.heap[mb]? = w.heap[mb]? → (Instr.lookup 85 (.map (some mb)) (.agg #[.int .i64 x.f0.f0, .int .i64 x.f0.f1, .int .i64 x.f0.f2]) false).run Try.prog W = .ok (.agg #[.int .i64 (m : Int), .int .i64 (r : Int)]) W := fun W hW => by
    have := (hmp.congr hW).look1 x.f0 hwf
    rw [hf] at this
    exact this
  have hmb := hmp.lt
  have hblt := World.block_lt_of_cell? w _ hmc
  have HM := Aside0.mk hmp
  have HH := Aside0.mk h
  have HLK := Aside0.mk hlook
  have HXE := Aside0.mk hxe
  have hss : (f x.f0).isSome = true := hs
  clear hf hlook hmp h hxe hs
  go_enter Try.func27, Try.ntmps27
  go_wp2_with fail
  obtain ⟨w1, hw1⟩ : ∃ w1, w1 = (w.alloc (.cells #[.int .i64 x.f0.f0, .int .i64 x.f0.f1, .int .i64 x.f0.f2] 48)).alloc (.cells #[.int .i64 0, .int .i64 0, .int .i64 0, .int .i64 0, .int .i64 0, .int .i64 0, .int .i64 0, .int .i64 0, .int .i64 0, .int .i64 0, .int .i64 0] 51) := ⟨_, rfl⟩
  rw [← hw1]
  have hb1 : Below w.heap.size w w1 := by rw [hw1]; exact below_alloc (below_alloc (Below.refl _ _) _) _
  have bi : w1.heap[w.heap.size]? = some (.cells #[.int .i64 x.f0.f0, .int .i64 x.f0.f1, .int .i64 x.f0.f2] 48 (0, 0)) := by rw [hw1, heap_old _ _ _ (by simp)]; exact heap_alloc_new w _
  have br : w1.heap[w.heap.size + 1]? = some (.cells #[.int .i64 0, .int .i64 0, .int .i64 0, .int .i64 0, .int .i64 0, .int .i64 0, .int .i64 0, .int .i64 0, .int .i64 0, .int .i64 0, .int .i64 0] 51 (0, 0)) := by
    rw [hw1]
    have := heap_alloc_new (w.alloc (.cells #[.int .i64 x.f0.f0, .int .i64 x.f0.f1, .int .i64 x.f0.f2] 48)) (.cells #[.int .i64 0, .int .i64 0, .int .i64 0, .int .i64 0, .int .i64 0, .int .i64 0, .int .i64 0, .int .i64 0, .int .i64 0, .int .i64 0, .int .i64 0] 51)
    rw [World.size_alloc] at this; exact this
  clear hw1
  refine (has_x b mb (toL T).length x.f0 f w1 hwf (cell_b hb1 hmc) (HM.out.congr (hb1.block mb hmb))).mono ?_
  rintro e w2 ⟨rfl, hb2⟩
  have hb12 := hb1.trans (hb2.mono hb1.size)
  have bi2 := (hb2.block _ (blk_lt bi)).trans bi
  have br2 := (hb2.block _ (blk_lt br)).trans br
  have i0 : w2.cell? ⟨w.heap.size, 0, none⟩ = some (.int .i64 x.f0.f0) := (blk_cell bi2 0).trans rfl
  have i1 : w2.cell? ⟨w.heap.size, 1, none⟩ = some (.int .i64 x.f0.f1) := (blk_cell bi2 1).trans rfl
  have i2 : w2.cell? ⟨w.heap.size, 2, none⟩ = some (.int .i64 x.f0.f2) := (blk_cell bi2 2).trans rfl
  have hmc2 := cell_b hb12 hmc
  have hk1 := HLK.out w2 (hb12.block mb hmb)
  have hk2 := HLK.out w2.drew (hb12.block mb hmb)
  have HB12 := Aside0.mk hb12
  have BR2 := Aside0.mk br2
  have HH2 := Aside0.mk (HH.out.below hb12)
  clear bi br bi2 br2 hb1 hb2 hb12 hmc
  go_wp2
  go_still_tail 7, (by kernel_rfl)
  change wpList _ _ _ _ _ (World.drew _)
  have hat := Sto.at w2.drew (HH2.out.below (below_drew (Below.refl _ _))) m r hm hr hlen
  rw [HXE.out] at hat
  clear i0 i1 i2 hmc2 hk1 hk2
  go_wp2_with fail
  (with_reducible refine hat.mono ?_)
  rintro e w3 ⟨rfl, hb3⟩
  have HB3 : Aside0 (Below w.heap.size w w3) := Aside0.mk ((below_drew HB12.out).trans (hb3.mono HB12.out.size))
  have br3 : w3.heap[w.heap.size + 1]? = some (.cells #[.int .i64 0, .int .i64 0, .int .i64 0, .int .i64 0, .int .i64 0, .int .i64 0, .int .i64 0, .int .i64 0, .int .i64 0, .int .i64 0, .int .i64 0] 51 (0, 0)) := (hb3.block _ (blk_lt BR2.out)).trans BR2.out
  obtain ⟨y0, y1, y2, y3, y4, y5, y6, y7, y8, y9, y10⟩ := box11 br3
  have hfr := blk_frozen br3
  have BR3 := Aside0.mk br3
  clear hat hb3 br3
  go_wp2_with fail
  obtain ⟨wf, hwf'⟩ : ∃ wf, wf = (((((((((((w3.setCell ⟨w.heap.size + 1, 0, none⟩ (.int .i64 x.f0.f0)).setCell ⟨w.heap.size + 1, 1, none⟩ (.int .i64 x.f0.f1)).setCell ⟨w.heap.size + 1, 2, none⟩ (.int .i64 x.f0.f2)).setCell ⟨w.heap.size + 1, 3, none⟩ (.int .i64 x.f1)).setCell ⟨w.heap.size + 1, 4, none⟩ (.int .i64 x.f2)).setCell ⟨w.heap.size + 1, 5, none⟩ (.int .i64 x.f3)).setCell ⟨w.heap.size + 1, 6, none⟩ (.int .i64 x.f4)).setCell ⟨w.heap.size + 1, 7, none⟩ (.int .i64 x.f5)).setCell ⟨w.heap.size + 1, 8, none⟩ (.int .i64 x.f6)).setCell ⟨w.heap.size + 1, 9, none⟩ (.int .i64 x.f7)).setCell ⟨w.heap.size + 1, 10, none⟩ (.int .i64 x.f8)) := ⟨_, rfl⟩
  rw [← hwf']
  have hfin : wf.heap[w.heap.size + 1]? = some (.cells #[.int .i64 x.f0.f0, .int .i64 x.f0.f1, .int .i64 x.f0.f2, .int .i64 x.f1, .int .i64 x.f2, .int .i64 x.f3, .int .i64 x.f4, .int .i64 x.f5, .int .i64 x.f6, .int .i64 x.f7, .int .i64 x.f8] 51 (0, 0)) := by
    rw [hwf']
    exact put11_new x BR3.out
  have hbf : Below w.heap.size w wf := by
    rw [hwf']
    exact put11_b x HB3.out (by omega)
  clear hwf' y0 y1 y2 y3 y4 y5 y6 y7 y8 y9 y10 hfr
  obtain ⟨z0', z1, z2, z3, z4, z5, z6, z7, z8, z9, z10⟩ := box11 hfin
  exact bodyPost_ret (v := .tuple #[.agg #[.int .i64 x.f0.f0, .int .i64 x.f0.f1, .int .i64 x.f0.f2, .int .i64 x.f1, .int .i64 x.f2, .int .i64 x.f3, .int .i64 x.f4, .int .i64 x.f5, .int .i64 x.f6, .int .i64 x.f7, .int .i64 x.f8], .bool true]) (by simp [results, Try.results27, go_sem, z0', z1, z2, z3, z4, z5, z6, z7, z8, z9, z10]) rfl ⟨rfl, hbf⟩
end Go.Proofs.Ythcgiacjmfmamaa.PA

namespace Go.Proofs.Ythcgiacjmfmamaa.PA
set_option linter.unusedVariables false
set_option linter.unusedSimpArgs false
open Go.RowKit Go.Shelf Go.Proofs.YthcgiacjmfmamaaW.PrintWords Go.Proofs.YthcgiacjmfmamaaW.PrintMore
theorem cl_in {a : Int} (h1 : -1073741824 ≤ a) (h2 : a ≤ 1073741824) : cl a = a := by
  unfold cl mx mn
  split <;> split <;> omega
theorem near_square {px py dd : Int} (hx : -100000 < px ∧ px < 100000) (hy : -100000 < py ∧ py < 100000) (hd : 0 ≤ dd ∧ dd < 100000) {x : TB} (h : OkB x) : decide (farI px py x.f2 x.f3 ≤ dd) = hasI (px - dd) (py - dd) (px + dd + 1) (py + dd + 1) x.f2 x.f3 := by
  obtain ⟨_, _, _, _, h5, h6⟩ := h
  rw [has_eq, farI_eq, decide_eq_decide]
  rw [cl_in (a := px) (by omega) (by omega), cl_in (a := py) (by omega) (by omega), cl_in (a := x.f2) (by omega) (by omega), cl_in (a := x.f3) (by omega) (by omega), cl_in (a := px - dd) (by omega) (by omega), cl_in (a := py - dd) (by omega) (by omega), cl_in (a := px + dd + 1) (by omega) (by omega), cl_in (a := py + dd + 1) (by omega) (by omega)]
  omega
theorem fars_len {px py dd : Int} (hx : -100000 < px ∧ px < 100000) (hy : -100000 < py ∧ py < 100000) (hd : 0 ≤ dd ∧ dd < 100000) {M : List TB} (h : Mlist M) (qa qn : Int) : (nearI qa qn px py dd M).length = ((ofI qa qn M).filter fun x => hasI (px - dd) (py - dd) (px + dd + 1) (py + dd + 1) x.f2 x.f3).length := by
  rw [(nearI_perm qa qn px py dd M).length_eq]
  congr 1
  refine List.filter_congr fun x hx' => ?_
  have hm : x ∈ M := (List.mem_filter.1 ((ofI_perm qa qn M).mem_iff.1 hx')).1
  exact near_square hx hy hd (h.ok x hm)
theorem nearI_mem {qa qn px py dd : Int} {M : List TB} {x : TB} (h : x ∈ nearI qa qn px py dd M) : x ∈ M ∧ farI px py x.f2 x.f3 ≤ dd := by
  have h1 := (nearI_perm qa qn px py dd M).mem_iff.1 h
  obtain ⟨h2, h3⟩ := List.mem_filter.1 h1
  exact ⟨(List.mem_filter.1 ((ofI_perm qa qn M).mem_iff.1 h2)).1, of_decide_eq_true h3⟩
theorem nearI_step {qa qn px py dd : Int} {M : List TB} (hd : Dist M) (i : Nat) (h : i + 1 < (nearI qa qn px py dd M).length) : farI px py (nearI qa qn px py dd M)[i].f2 (nearI qa qn px py dd M)[i].f3 ≤ farI px py (nearI qa qn px py dd M)[i + 1].f2 (nearI qa qn px py dd M)[i + 1].f3 := by
  have hp := List.pairwise_iff_getElem.1 (nearI_sorted qa qn px py dd hd) i (i + 1) (by omega) h (by omega)
  have c := cmpI_cases (farI px py (nearI qa qn px py dd M)[i].f2 (nearI qa qn px py dd M)[i].f3) (farI px py (nearI qa qn px py dd M)[i + 1].f2 (nearI qa qn px py dd M)[i + 1].f3)
  unfold bFar farC at hp
  omega
theorem farI_nn (x y u v : Int) : 0 ≤ farI x y u v := by
  rw [farI_eq]; omega
theorem law_get (w : World) {b : Nat} {A : Option Addr} {c : Nat} {L M : List TB} (h : Mst w b A c L M) {x : TB} (hx : x ∈ M) :
    Calls Try.prog 27 #[.pointer (some ⟨b, 0, none⟩), .agg #[.int .i64 x.f0.f0, .int .i64 x.f0.f1, .int .i64 x.f0.f2]] w fun e w' => e = .returned (.tuple #[.agg #[.int .i64 x.f0.f0, .int .i64 x.f0.f1, .int .i64 x.f0.f2, .int .i64 x.f1, .int .i64 x.f2, .int .i64 x.f3, .int .i64 x.f4, .int .i64 x.f5, .int .i64 x.f6, .int .i64 x.f7, .int .i64 x.f8], .bool true]) ∧ Below w.heap.size w w' := by
  obtain ⟨base, hh⟩ := h.holds
  rcases hh with ⟨e, _⟩ | ⟨b', T, e, hS, hL⟩
  · cases e
  · have hb : b = b' := by injection e with e; injection e
    rw [hb]
    have hl := h.len
    rw [hL] at hl
    exact get_x w hS hl x (by rw [← hL]; exact h.perm.mem_iff.2 hx)
theorem law_reffar (w : World) (x y u v : Int) : Calls Try.prog 28 #[.int .i64 x, .int .i64 y, .int .i64 u, .int .i64 v] w fun e w' => e = .returned (.int .i64 (farI x y u v)) ∧ Below w.heap.size w w' :=
  (hedgerowref03_Far.calls x y u v _ w (reffar_eq x y u v)).mono fun e w' h => ⟨h.1, by first | exact h.2 | exact drawn_b h.2⟩
end Go.Proofs.Ythcgiacjmfmamaa.PA

namespace Go.Proofs.Ythcgiacjmfmamaa.PA
set_option linter.unusedVariables false
set_option linter.unusedSimpArgs false
open Go.RowKit Go.Shelf Go.Proofs.YthcgiacjmfmamaaW.PrintWords
theorem tmod_bd (a : Int) : -100000 < a.tmod 100000 ∧ a.tmod 100000 < 100000 := by
  have h1 := Int.tmod_lt_of_pos a (b := 100000) (by decide)
  have h2 := Int.tmod_lt_of_pos (-a) (b := 100000) (by decide)
  rw [Int.neg_tmod] at h2
  omega
set_option maxRecDepth 100000 in
set_option maxHeartbeats 8000000 in
theorem lawfars_x (w : World) (A0 : Option Addr) (c0 : Nat) (l0 : List TB) (hC0 : Kd.C k51 w A0 l0.length l0) (qa qn px py dd : Int) :
    Calls Try.prog 7 #[.slice A0 l0.length c0, .agg #[.int .i64 qa, .int .i64 qn], .agg #[.int .i64 px, .int .i64 py, .int .i64 dd]] w fun e w' => e = .returned (.bool true) ∧ Below w.heap.size w w' := by
  obtain ⟨dq, hdq⟩ : ∃ dq, dq = max 0 (dd.tmod 100000) := ⟨_, rfl⟩
  have hmx : ∀ W : World, (Builtin.max_ #[3, 3] 3 #[.int .i64 0, .int .i64 (dd.tmod 100000)]).run Try.prog W = .ok (.int .i64 dq) W := fun W => by
    have e : (if 0 < dd.tmod 100000 then dd.tmod 100000 else 0) = max 0 (dd.tmod 100000) := by split <;> omega
    rw [hdq, ← e]
    go_simp
  have HDQ : Aside0 (0 ≤ dq ∧ dq < 100000) := Aside0.mk (by have := tmod_bd dd; omega)
  have hd0 : 0 ≤ dq := HDQ.out.1
  have hd1 : dq < 100000 := HDQ.out.2
  clear hdq
  have HC0 := Aside0.mk hC0
  clear hC0
  go_enter Try.func7, Try.ntmps7
  go_wp2_with fail
  clear hmx
  obtain ⟨X, hX⟩ : ∃ X, X = px.tmod 100000 := ⟨_, rfl⟩
  obtain ⟨Y, hY⟩ : ∃ Y, Y = py.tmod 100000 := ⟨_, rfl⟩
  rw [← hX, ← hY]
  have HX : Aside0 (-100000 < X ∧ X < 100000) := Aside0.mk (by rw [hX]; exact tmod_bd px)
  have HY : Aside0 (-100000 < Y ∧ Y < 100000) := Aside0.mk (by rw [hY]; exact tmod_bd py)
  have hx0 : -100000 < X := HX.out.1
  have hx1 : X < 100000 := HX.out.2
  have hy0 : -100000 < Y := HY.out.1
  have hy1 : Y < 100000 := HY.out.2
  clear hX hY
  obtain ⟨w1, hw1⟩ : ∃ w1, w1 = (w.alloc (.cells #[.int .i64 qa, .int .i64 qn] 23)).alloc (.cells #[.int .i64 X, .int .i64 Y, .int .i64 dq] 42) := ⟨_, rfl⟩
  rw [← hw1]
  have hb1 : Below w.heap.size w w1 := by rw [hw1]; exact below_alloc (below_alloc (Below.refl _ _) _) _
  have bq : w1.heap[w.heap.size]? = some (.cells #[.int .i64 qa, .int .i64 qn] 23 (0, 0)) := by rw [hw1, heap_old _ _ _ (by simp)]; exact heap_alloc_new w _
  have br : w1.heap[w.heap.size + 1]? = some (.cells #[.int .i64 X, .int .i64 Y, .int .i64 dq] 42 (0, 0)) := by
    rw [hw1]
    have := heap_alloc_new (w.alloc (.cells #[.int .i64 qa, .int .i64 qn] 23)) (.cells #[.int .i64 X, .int .i64 Y, .int .i64 dq] 42)
    rw [World.size_alloc] at this; exact this
  have q0 : w1.cell? ⟨w.heap.size, 0, none⟩ = some (.int .i64 qa) := (blk_cell bq 0).trans rfl
  have q1 : w1.cell? ⟨w.heap.size, 1, none⟩ = some (.int .i64 qn) := (blk_cell bq 1).trans rfl
  have q2 : w1.cell? ⟨w.heap.size + 1, 0, none⟩ = some (.int .i64 X) := (blk_cell br 0).trans rfl
  have q3 : w1.cell? ⟨w.heap.size + 1, 1, none⟩ = some (.int .i64 Y) := (blk_cell br 1).trans rfl
  have q4 : w1.cell? ⟨w.heap.size + 1, 2, none⟩ = some (.int .i64 dq) := (blk_cell br 2).trans rfl
  have HB1 := Aside0.mk hb1
  clear bq br hb1 hw1
  refine (lawmade_x w1 A0 c0 l0 (Kd.C_below HC0.out HB1.out)).mono ?_
  rintro e w2 ⟨b, A, c, L, rfl, hb2, hM⟩
  obtain ⟨M, hMe⟩ : ∃ M, M = madeL (l0.take 60) := ⟨_, rfl⟩
  rw [← hMe] at hM ⊢
  have HM := Aside0.mk hM
  have HB2 := Aside0.mk (HB1.out.trans (hb2.mono HB1.out.size))
  have r0 := cell_b hb2 q0
  have r1 := cell_b hb2 q1
  have r2 := cell_b hb2 q2
  have r3 := cell_b hb2 q3
  have r4 := cell_b hb2 q4
  clear hMe hM hb2 q0 q1 q2 q3 q4
  obtain ⟨nl, hnl⟩ : ∃ nl, nl = nearI qa qn X Y dq M := ⟨_, rfl⟩
  obtain ⟨ns, hns⟩ : ∃ ns, ns = nl.map (·.f0) := ⟨_, rfl⟩
  obtain ⟨ms, hms⟩ : ∃ ms, ms = ((ofI qa qn M).filter fun x => hasI (X - dq) (Y - dq) (X + dq + 1) (Y + dq + 1) x.f2 x.f3).map (·.f0) := ⟨_, rfl⟩
  have hlen : ms.length = ns.length := by
    rw [hms, hns, hnl, List.length_map, List.length_map, fars_len HX.out HY.out HDQ.out HM.out.lst]
  have hn60 : ns.length ≤ 60 := by rw [hns, hnl, List.length_map]; exact Nat.le_trans (nearI_len qa qn X Y dq M) HM.out.lst.len
  have HNN : Aside0 (ns = (nearI qa qn X Y dq M).map (·.f0)) := Aside0.mk (by rw [hns, hnl])
  have HNL := Aside0.mk hnl
  have HNS := Aside0.mk hns
  have HMS := Aside0.mk hms
  have HLEN := Aside0.mk hlen
  clear hnl hns hms hlen
  go_wp2_with fail
  refine (law_near w2 HM.out qa qn X Y dq HNN.out).mono ?_
  rintro e w3 ⟨An, cn, rfl, hb3, hcn, hCn⟩
  have HB3 := Aside0.mk (HB2.out.trans (hb3.mono HB2.out.size))
  have HM3 := Aside0.mk (HM.out.below hb3)
  have HCn3 := Aside0.mk hCn
  have q0 := cell_b hb3 r0
  have q1 := cell_b hb3 r1
  have q2 := cell_b hb3 r2
  have q3 := cell_b hb3 r3
  have q4 := cell_b hb3 r4
  clear hb3 r0 r1 r2 r3 r4 hCn
  go_wp2_with fail
  refine (law_within w3 HM3.out qa qn (X - dq) (Y - dq) (X + dq + 1) (Y + dq + 1) HMS.out).mono ?_
  rintro e w4 ⟨Am, cm, rfl, hb4, hcm, hCm⟩
  have HB4 := Aside0.mk (HB3.out.trans (hb4.mono HB3.out.size))
  have HM4 := Aside0.mk (HM3.out.below hb4)
  have HCn4 := Aside0.mk (Kd.C_below HCn3.out hb4)
  have Q2 := Aside0.mk (cell_b hb4 q2)
  have Q3 := Aside0.mk (cell_b hb4 q3)
  have Q4 := Aside0.mk (cell_b hb4 q4)
  clear hb4 q0 q1 q2 q3 q4 hCm
  rw [HLEN.out]
  go_wp2
  have hnn : ns.length = nl.length := by rw [HNS.out, List.length_map]
  have HNN2 := Aside0.mk hnn
  clear hnn hd0 hd1 hx0 hx1 hy0 hy1
  go_loopw [11, 12] (fun v11 v12 wr => ∃ (lv : Int) (i : Nat), v11 = .int .i64 lv ∧ v12 = .int .i64 i ∧ i ≤ ns.length ∧ Aside0 (∀ h : i < nl.length, lv ≤ farI X Y nl[i].f2 nl[i].f3) ∧ Aside0 (Below w4.heap.size w4 wr)) (fun _ v12 _ => ns.length - (intOf v12).toNat)
  case atStart => exact ⟨0, 0, rfl, rfl, Nat.zero_le _, ⟨fun _ => farI_nn _ _ _ _⟩, ⟨Below.refl _ _⟩⟩
  case round =>
    obtain ⟨lv, i, rfl, rfl, hi, HLV, HW0⟩ := hrel
    by_cases hlt : i < ns.length
    · have hlt2 : i < nl.length := by rw [← HNN2.out]; exact hlt
      have g1 : (i : Int) < (ns.length : Int) := by omega
      obtain ⟨ad, hA1, x0, x1, x2⟩ := id_cells HW0.out HCn4.out i hlt
      subst hA1
      obtain ⟨x, hx⟩ : ∃ x, x = nl[i] := ⟨_, rfl⟩
      have hnx : ns[i] = x.f0 := by
        rw [hx]
        have := HNS.out
        simp [this]
      rw [hnx] at x0 x1 x2
      have hxm : x ∈ nearI qa qn X Y dq M := by rw [hx, ← HNL.out]; exact List.getElem_mem hlt2
      obtain ⟨hxM, hxd⟩ := nearI_mem hxm
      have hlv : lv ≤ farI X Y x.f2 x.f3 := by rw [hx]; exact HLV.out hlt2
      have hstep : ∀ h : i + 1 < nl.length, farI X Y x.f2 x.f3 ≤ farI X Y nl[i + 1].f2 nl[i + 1].f3 := fun h => by
        rw [hx]
        have := nearI_step (qa := qa) (qn := qn) (px := X) (py := Y) (dd := dq) HM.out.lst.dist i (by rw [← HNL.out]; exact h)
        simp only [← HNL.out] at this
        exact this
      have HST := Aside0.mk hstep
      have hget := law_get wr (HM4.out.below HW0.out) hxM
      have q2 := cell_b HW0.out Q2.out
      have q3 := cell_b HW0.out Q3.out
      have q4 := cell_b HW0.out Q4.out
      have hwl := World.block_lt_of_cell? wr _ q2
      obtain ⟨fv, hfv⟩ : ∃ fv, fv = farI X Y x.f2 x.f3 := ⟨_, rfl⟩
      have hff := law_reffar
      have d1 : decide (fv < lv) = false := by rw [hfv]; simp; exact hlv
      have d2 : decide (dq < fv) = false := by rw [hfv]; simp; exact hxd
      have HFV := Aside0.mk hfv
      clear hx hnx hxm hxM hxd hlv hstep hfv hff
      go_wp2_with fail
      refine hget.mono ?_
      rintro e w5 ⟨rfl, hb5⟩
      have p2 := cell_b hb5 q2
      have p3 := cell_b hb5 q3
      have p4 := cell_b hb5 q4
      have HB5 := Aside0.mk (HW0.out.trans (hb5.mono HW0.out.size))
      have hwl5 := World.block_lt_of_cell? w5 _ p2
      clear hget hb5 q2 q3 q4 x0 x1 x2 hwl
      go_wp2_with fail
      refine (law_reffar _ X Y x.f2 x.f3).mono ?_
      rintro e w6 ⟨rfl, hb6⟩
      rw [← HFV.out]
      have p4' : w6.cell? ⟨w.heap.size + 1, 2, none⟩ = some (.int .i64 dq) := cell_b ((below_alloc (Below.refl _ w5) _).trans (hb6.mono (by simp))) p4
      have HB6 : Aside0 (Below w4.heap.size w4 w6) := Aside0.mk ((below_alloc HB5.out _).trans (hb6.mono (below_alloc HB5.out _).size))
      clear p2 p3 p4 hb6
      go_wp2
      go_roundw
      case rel => exact ⟨fv, i + 1, rfl, by go_num, hlt, ⟨fun h => by rw [HFV.out]; exact HST.out h⟩, HB6⟩
      case measure => simp [intOf]; omega
    · have g1 : ¬ (i : Int) < (ns.length : Int) := by omega
      go_wp2_with fail
      refine (awake_x _).mono ?_
      rintro e w5 ⟨rfl, hb5⟩
      have HB5 := Aside0.mk ((HB4.out.trans (HW0.out.mono HB4.out.size)).trans (hb5.mono ((HB4.out.trans (HW0.out.mono HB4.out.size)).size)))
      go_wp2
      go_ret
      exact ⟨rfl, HB5.out⟩
end Go.Proofs.Ythcgiacjmfmamaa.PA

namespace Go.Proofs.Ythcgiacjmfmamaa.QueryFars
open Go.ChangeShapes Go.WideShapes Go.ChangeAt Go.RowKit
open Go.ChangeMaps (open_string shut_string)
set_option linter.unusedVariables false
set_option maxRecDepth 100000 in
theorem lifted (os : Os) (started : os.Started) (H : Type) (enc : TypeId × Value → H) :
    ReturnsInHanded {} Try.checked os 7 .any (Rows.queryFarsSpec.pre6 enc Try.prog Try.f7 Rows.queryFarsRow.domain false) (Rows.queryFarsSpec.post enc Try.prog Try.f7 false true false false) := by
  refine returnsInHanded_of_change_sized (C := Try.checked) PA.own_kn started (by kernel_rfl) Try.func7
    (ChangeSpec.witness6 (enc := enc) (C := Try.checked) false ⟨#[], #[.slice none 0 0, .agg #[.int .i64 0, .int .i64 0], .agg #[.int .i64 0, .int .i64 0, .int .i64 0]], []⟩ 8 (by kernel_rfl) (by kernel_rfl) (by kernel_rfl) (by kernel_rfl)) ?_
  intro W base args ds gs before hval0 hW hcnd hsz0 _
  have hval : ∀ (j : Nat) t v, Try.f7.params[j]? = some t → args[j]? = some v → Value.okWide Try.prog W .any base t v := hval0
  have hW' := hW
  obtain ⟨p, q, hA0, hV, rfl, hfz, hnd⟩ := hW
  have hA : DataW.TrodAll enc Try.prog W 0 (fun _ => true) true Try.f7.params.toList args.toList ds p := hA0
  rw [Try.params7] at hA hval
  obtain ⟨v0, vs0, d0, ds0, p0, q0, hargs, rfl, rfl, h0, r0⟩ := trodAll_cons hA
  obtain ⟨v1, vs1, d1, ds1, p1, q1, rfl, rfl, rfl, h1, r1⟩ := trodAll_cons r0
  obtain ⟨v2, vs2, d2, ds2, p2, q2, rfl, rfl, rfl, h2, r2⟩ := trodAll_cons r1
  obtain ⟨rfl, rfl, rfl⟩ := trodAll_nil r2
  obtain rfl : args = #[v0, v1, v2] := by cases args; simp_all
  obtain ⟨rfl, rfl⟩ := trodVars_none hV
  have k0 := h0
  have lt0 : ∀ x ∈ p0, x.block < W.heap.size := by obtain ⟨m, hm⟩ := k0; exact DataW.trod_lt m _ _ _ hm
  obtain ⟨A0, c0, l0, rfl, hC0⟩ := PA.open_bundles (hval 0 29 v0 rfl rfl) h0
  have k1 := h1
  have lt1 : ∀ x ∈ p1, x.block < W.heap.size := by obtain ⟨m, hm⟩ := k1; exact DataW.trod_lt m _ _ _ hm
  obtain ⟨qa1, qn1, rfl, ha1, hn1⟩ := PA.open_query (hval 1 23 v1 rfl rfl) h1
  have k2 := h2
  have lt2 : ∀ x ∈ p2, x.block < W.heap.size := by obtain ⟨m, hm⟩ := k2; exact DataW.trod_lt m _ _ _ hm
  obtain ⟨px2, py2, pd2, rfl, wx2, wy2, wd2⟩ := PA.open_place (hval 2 42 v2 rfl rfl) h2
  clear hA0 hval0 hsz0
  refine (PA.lawfars_x W A0 c0 l0 hC0 qa1 qn1 px2 py2 pd2).mono fun e W' ⟨he, bel⟩ => ?_
  subst he
  exact ⟨_, rfl, _, _, _, [], _, [], hW', trodAll_mk1 (shut_bool Try.underlying4 _), (trodAll_cons_mk (Below.trod PA.laidOut (by kernel_rfl) (of_decide_eq_true (by kernel_rfl)) k0 bel lt0) (trodAll_cons_mk (Below.trod PA.laidOut (by kernel_rfl) (of_decide_eq_true (by kernel_rfl)) k1 bel lt1) (trodAll_cons_mk (Below.trod PA.laidOut (by kernel_rfl) (of_decide_eq_true (by kernel_rfl)) k2 bel lt2) trodAll_mk0))), rfl, bel.frame _, fun h => by cases h⟩
theorem over : Rows.queryFarsRow.holds Try.pinned (OpenSpec.ofChange Rows.queryFarsSpec) :=
  OpenClaim.holds_of_wide 7 Try.f7 rfl rfl rfl rfl rfl rfl rfl ⟨rfl, rfl, rfl, rfl, rfl⟩ rfl rfl rfl rfl rfl (by kernel_rfl) Try.func7 (by kernel_rfl)
    (of_decide_eq_true (by kernel_rfl)) (by unfold Func.isWrapper; first | (rw [if_pos (by decide +kernel)]; kernel_rfl) | (rw [if_neg (by decide +kernel)]; exact ⟨rfl, rfl⟩))
    (fun os started H enc _ => lifted os started H enc)
theorem proved : Rows.QueryFarsSaid := over
#print axioms proved
end Go.Proofs.Ythcgiacjmfmamaa.QueryFars
namespace Go.Proofs.Ythcgiacjmfmamaa
theorem queryFars_holds : Rows.QueryFarsSaid := QueryFars.proved
end Go.Proofs.Ythcgiacjmfmamaa
