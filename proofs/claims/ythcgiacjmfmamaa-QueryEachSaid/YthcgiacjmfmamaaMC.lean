/-
  Remove: what is there is taken out, what is not there changes nothing.
-/
import Derived.Test.YthcgiacjmfmamaaMB
import Derived.Test.YthcgiacjmfmamaaMS
import Derived.RangeFuncOwn
import Derived.StillTailTactics
import Derived.Deep.QuietTactic
import Derived.BigQuiet
namespace Go.Proofs.Ythcgiacjmfmamaa.PA
set_option linter.unusedVariables false
set_option linter.unusedSimpArgs false
open Go.RowKit Go.Proofs.YthcgiacjmfmamaaW.PrintWords
theorem idCells_cons (x : TID) (l : List TID) : idCells (x :: l) = .int .i64 x.f0 :: .int .i64 x.f1 :: .int .i64 x.f2 :: idCells l := rfl
theorem idCells_set (y : TID) : ∀ (l : List TID) (r : Nat), r < l.length → idCells (l.set r y) = (((idCells l).set (r * 3) (.int .i64 y.f0)).set (r * 3 + 1) (.int .i64 y.f1)).set (r * 3 + 2) (.int .i64 y.f2)
  | [], r, h => absurd h (Nat.not_lt_zero r)
  | x :: l, 0, _ => rfl
  | x :: l, r + 1, h => by
    have ih := idCells_set y l r (by simpa using h)
    rw [List.set_cons_succ, idCells_cons, idCells_cons, ih, show (r + 1) * 3 = r * 3 + 1 + 1 + 1 by omega, show r * 3 + 1 + 1 + 1 + 1 = (r * 3 + 1) + 1 + 1 + 1 by omega, show r * 3 + 1 + 1 + 1 + 2 = (r * 3 + 2) + 1 + 1 + 1 by omega]
    rfl
theorem idCells_take : ∀ (l : List TID) (k : Nat), idCells (l.take k) = (idCells l).take (k * 3)
  | [], k => by simp [idCells]
  | x :: l, 0 => by simp [idCells]
  | x :: l, k + 1 => by
    rw [List.take_succ_cons, idCells_cons, idCells_cons, idCells_take l k, show (k + 1) * 3 = k * 3 + 1 + 1 + 1 by omega]
    rfl
theorem idCells_get (l : List TID) (i : Nat) (h : i < l.length) : (idCells l)[i * 3]? = some (.int .i64 l[i].f0) ∧ (idCells l)[i * 3 + 1]? = some (.int .i64 l[i].f1) ∧ (idCells l)[i * 3 + 2]? = some (.int .i64 l[i].f2) := by
  induction l generalizing i with
  | nil => exact absurd h (Nat.not_lt_zero i)
  | cons x l ih =>
    match i, h with
    | 0, _ => exact ⟨rfl, rfl, rfl⟩
    | i + 1, h =>
      obtain ⟨h0, h1, h2⟩ := ih i (by simpa using h)
      rw [idCells_cons, show (i + 1) * 3 = i * 3 + 1 + 1 + 1 by omega, show i * 3 + 1 + 1 + 1 + 1 = (i * 3 + 1) + 1 + 1 + 1 by omega, show i * 3 + 1 + 1 + 1 + 2 = (i * 3 + 2) + 1 + 1 + 1 by omega]
      exact ⟨h0, h1, h2⟩
theorem nums_set (l : List Int) (r : Nat) (y : Int) : nums .i64 (l.set r y) = (nums .i64 l).set r (.int .i64 y) := by simp [nums, List.map_set]
theorem nums_take (l : List Int) (k : Nat) : nums .i64 (l.take k) = (nums .i64 l).take (k * 1) := by simp [nums, List.map_take]
/-- A cell of an own row, read. -/
theorem own_cell {w : World} {base : Nat} {e : TypeId} {size n g cap : Nat} {xs : List Value} (h : w.ownsRow base e size (.slice (some ⟨g, 0, none⟩) n cap) n xs) (j : Nat) (u : Value) (hu : xs[j]? = some u) : w.cell? ⟨g, j, none⟩ = some u := by
  rcases h.2 with ⟨e1, _⟩ | ⟨g', cap', cur, e1, hb, hg, h1, h2, h3, h4⟩
  · cases e1
  · cases e1
    rw [blk_cell hg]
    have hj := (List.getElem?_eq_some_iff.1 hu).1
    rw [← h4, List.getElem?_take_of_lt (by have := h.1; omega)] at hu
    simpa using hu
theorem own_frozen {w : World} {base : Nat} {e : TypeId} {size n g cap : Nat} {xs : List Value} (h : w.ownsRow base e size (.slice (some ⟨g, 0, none⟩) n cap) n xs) (j : Nat) : w.frozen? ⟨g, j, none⟩ = false := by
  rcases h.2 with ⟨e1, _⟩ | ⟨g', cap', cur, e1, hb, hg, h1, h2, h3, h4⟩
  · cases e1
  · cases e1; exact blk_frozen hg j
theorem own_set {w : World} {base : Nat} {e : TypeId} {size n g cap : Nat} {xs : List Value} (h : w.ownsRow base e size (.slice (some ⟨g, 0, none⟩) n cap) n xs) (j : Nat) (u : Value) : (w.setCell ⟨g, j, none⟩ u).ownsRow base e size (.slice (some ⟨g, 0, none⟩) n cap) n (xs.set j u) := by
  refine ⟨by rw [List.length_set]; exact h.1, ?_⟩
  rcases h.2 with ⟨e1, _⟩ | ⟨g', cap', cur, e1, hb, hg, h1, h2, h3, h4⟩
  · cases e1
  · cases e1
    refine .inr ⟨g, cap, cur.setIfInBounds j u, rfl, hb, blk_set hg j u, h1, h2, by rw [Array.size_setIfInBounds]; exact h3, ?_⟩
    rw [Array.toList_setIfInBounds, List.take_set, h4]
theorem own_cut {w : World} {base : Nat} {e : TypeId} {size n g cap : Nat} {xs : List Value} (h : w.ownsRow base e size (.slice (some ⟨g, 0, none⟩) n cap) n xs) (k : Nat) (hk : k ≤ n) : w.ownsRow base e size (.slice (some ⟨g, 0, none⟩) k cap) k (xs.take (k * size)) := by
  have hm : k * size ≤ n * size := Nat.mul_le_mul_right size hk
  refine ⟨by rw [List.length_take, h.1]; omega, ?_⟩
  rcases h.2 with ⟨e1, _⟩ | ⟨g', cap', cur, e1, hb, hg, h1, h2, h3, h4⟩
  · cases e1
  · cases e1
    refine .inr ⟨g, cap, cur, rfl, hb, hg, by omega, h2, h3, ?_⟩
    rw [← h4, List.take_take, Nat.min_eq_left hm]
theorem own_form {w : World} {base : Nat} {e : TypeId} {size n : Nat} {v : Value} {xs : List Value} (h : w.ownsRow base e size v n xs) (hn : 0 < n) : ∃ g cap, v = .slice (some ⟨g, 0, none⟩) n cap ∧ n ≤ cap := by
  rcases h.2 with ⟨_, e2⟩ | ⟨g, cap, cur, e1, _, _, h1, _⟩
  · omega
  · exact ⟨g, cap, e1, h1⟩
section
variable {w : World} {base b mb : Nat} {sv : Nat → Value} {I : Nat → List TID} {C : Nat → List Int} {f : TID → Option (Int × Int)} {n : Nat} {ow : Nat → Nat}
theorem Rep.grown_row (h : Rep w base b mb sv I C f n ow) {o g : Nat} (ho : o < 256) (hg : (sv o).ownBlock = some g) {w1 : World} (hgr : w.grownBy w1 (some g)) :
    (∃ cs : Array Value, w1.heap[b]? = some (.cells cs 87 (0, 0)) ∧ (∀ o, o < 256 → cs[o]? = some (sv o)) ∧ cs[256]? = some (.map (some mb))) ∧ PMap w1 mb n f ∧ (∀ p k, p < 256 → p ≠ o → (sv p).ownBlock = some k → w1.heap[k]? = w.heap[k]?) := by
  have og := h.own o g ho hg
  have hk : ∀ k, k < w.heap.size → k ≠ g → w1.heap[k]? = w.heap[k]? := fun k hk hne => hgr.block k hk (fun e => hne (by simpa using e))
  obtain ⟨cs, hb, hc⟩ := h.blk
  refine ⟨⟨cs, (hk b (blk_lt hb) (fun e => by have := h.owb; rw [e, og] at this; omega)).trans hb, hc⟩, h.map.congr (hk mb h.map.lt (fun e => by have := h.owm; rw [e, og] at this; omega)), fun p k hp hpo e => ?_⟩
  have hlt : k < w.heap.size := by
    by_cases h8 : p % 8 = 0
    · have := h.ids (p / 8) (by omega)
      rw [show 8 * (p / 8) = p by omega] at this
      exact own_lt this k e
    · exact own_lt (h.cols p hp h8) k e
  exact hk k hlt (fun e2 => by have := h.own p k hp e; rw [e2, og] at this; omega)
/-- Name r of the row of mask m is another one. -/
theorem Rep.set_id (h : Rep w base b mb sv I C f n ow) {m g cap r : Nat} (hm : m < 32) (hv : sv (8 * m) = .slice (some ⟨g, 0, none⟩) (I m).length cap) (hr : r < (I m).length) (y : TID) :
    Rep (((w.setCell ⟨g, r * 3, none⟩ (.int .i64 y.f0)).setCell ⟨g, r * 3 + 1, none⟩ (.int .i64 y.f1)).setCell ⟨g, r * 3 + 2, none⟩ (.int .i64 y.f2)) base b mb sv (upd I m ((I m).set r y)) C f n ow := by
  have hgr : w.grownBy (((w.setCell ⟨g, r * 3, none⟩ (.int .i64 y.f0)).setCell ⟨g, r * 3 + 1, none⟩ (.int .i64 y.f1)).setCell ⟨g, r * 3 + 2, none⟩ (.int .i64 y.f2)) (some g) := grownBy_trans (grownBy_trans (grownBy_set w _ _) (grownBy_set _ _ _)) (grownBy_set _ _ _)
  obtain ⟨h1, h2, h3⟩ := h.grown_row (o := 8 * m) (by omega) (by rw [hv]; rfl) hgr
  refine ⟨h1, h.bb, h.bm, fun p hp => ?_, fun p hp hp8 => own_step (h.cols p hp hp8) (fun k e => h3 p k hp (by omega) e), h.own, h.owb, h.owm, h2⟩
  by_cases e : p = m
  · subst e
    rw [upd_same, idCells_set y (I p) r hr, List.length_set]
    have h0 := h.ids p hp
    rw [hv] at h0 ⊢
    exact own_set (own_set (own_set h0 _ _) _ _) _ _
  · rw [upd_other _ e]
    exact own_step (h.ids p hp) (fun k ek => h3 _ k (by omega) (by omega) ek)
/-- The row of mask m is shorter. -/
theorem Rep.cut_id (h : Rep w base b mb sv I C f n ow) {m g cap k : Nat} (hm : m < 32) (hv : sv (8 * m) = .slice (some ⟨g, 0, none⟩) (I m).length cap) (hk : k ≤ (I m).length) :
    ∃ ow', Rep (w.setCell ⟨b, 8 * m, none⟩ (.slice (some ⟨g, 0, none⟩) k cap)) base b mb (upd sv (8 * m) (.slice (some ⟨g, 0, none⟩) k cap)) (upd I m ((I m).take k)) C f n ow' := by
  have h0 := h.ids m hm
  rw [hv] at h0
  have hl : ((I m).take k).length = k := by rw [List.length_take]; omega
  refine ⟨_, h.append_id hm (grownBy_refl w _) (.inl (by rw [hv]; rfl)) rfl ?_⟩
  rw [hl, idCells_take]
  exact own_cut h0 k hk
/-- Row o has another number in r, and is cut. -/
theorem Rep.cut_col (h : Rep w base b mb sv I C f n ow) {o g cap k r : Nat} (ho : o < 256) (h8 : o % 8 ≠ 0) (hv : sv o = .slice (some ⟨g, 0, none⟩) (C o).length cap) (hk : k ≤ (C o).length) (y : Int) :
    ∃ ow', Rep ((w.setCell ⟨g, r, none⟩ (.int .i64 y)).setCell ⟨b, o, none⟩ (.slice (some ⟨g, 0, none⟩) k cap)) base b mb (upd sv o (.slice (some ⟨g, 0, none⟩) k cap)) I (upd C o (((C o).set r y).take k)) f n ow' := by
  have h0 := h.cols o ho h8
  rw [hv] at h0
  have hl : (((C o).set r y).take k).length = k := by rw [List.length_take, List.length_set]; omega
  refine ⟨_, h.append_col ho h8 (w1 := w.setCell ⟨g, r, none⟩ (.int .i64 y)) (by rw [hv]; exact grownBy_set w _ _) (.inl (by rw [hv]; rfl)) rfl ?_⟩
  rw [hl, nums_take, nums_set]
  exact own_cut (own_set h0 _ _) k hk
end
end Go.Proofs.Ythcgiacjmfmamaa.PA

namespace Go.Proofs.Ythcgiacjmfmamaa.PA
set_option linter.unusedVariables false
set_option linter.unusedSimpArgs false
open Go.RowKit Go.Proofs.YthcgiacjmfmamaaW.PrintWords
/-- The columns of table m behind k rounds. -/
def Ccut (C : Nat → List Int) (m r L k : Nat) : Nat → List Int := fun o => if m * 8 + 1 ≤ o ∧ o < m * 8 + 1 + k then ((C o).set r ((C o).getD L 0)).take L else C o
theorem Ccut_zero (C : Nat → List Int) (m r L : Nat) : Ccut C m r L 0 = C := by
  funext o
  unfold Ccut
  rw [if_neg (by omega)]
theorem Ccut_at (C : Nat → List Int) (m r L k : Nat) : Ccut C m r L k (m * 8 + 1 + k) = C (m * 8 + 1 + k) := by
  unfold Ccut
  rw [if_neg (by omega)]
theorem Ccut_succ (C : Nat → List Int) (m r L k : Nat) : upd (Ccut C m r L k) (m * 8 + 1 + k) (((C (m * 8 + 1 + k)).set r ((C (m * 8 + 1 + k)).getD L 0)).take L) = Ccut C m r L (k + 1) := by
  funext o
  unfold upd Ccut
  by_cases e : o = m * 8 + 1 + k
  · rw [if_pos e, if_pos (by omega), e]
  · rw [if_neg e]
    by_cases h : m * 8 + 1 ≤ o ∧ o < m * 8 + 1 + k
    · rw [if_pos h, if_pos (by omega)]
    · rw [if_neg h, if_neg (by omega)]
/-- Keeps, and of what is no cells only the store's own map turns. -/
structure KeepsM (mb base : Nat) (w w' : World) : Prop where
  k : Keeps base w w'
  maps : ∀ (j : Nat) (o : Obj), j ≠ mb → w.heap[j]? = some o → o.isCells = false → w'.heap[j]? = some o
section
variable {mb base : Nat} {w w1 w2 : World}
theorem KeepsM.refl (mb base : Nat) (w : World) : KeepsM mb base w w := ⟨Keeps.refl _ _, fun _ _ _ h _ => h⟩
theorem KeepsM.of_below (hs : base ≤ w.heap.size) (h : Below w.heap.size w w1) : KeepsM mb base w w1 :=
  ⟨Keeps.of_below hs h, fun j _ _ ho _ => (h.block j (blk_lt ho)).trans ho⟩
theorem KeepsM.grown (h : KeepsM mb base w w1) (hs : base ≤ w1.heap.size) {row : Option Nat} (hg : w1.grownBy w2 row) (hr : ∀ k, row = some k → base ≤ k ∧ ∀ o, w1.heap[k]? = some o → shelf o = true)
    (hr2 : ∀ k, row = some k → k = mb ∨ ∃ cs t f, w1.heap[k]? = some (.cells cs t f)) : KeepsM mb base w w2 := by
  refine ⟨h.k.grown hs hg hr, fun j o hne ho hc => ?_⟩
  have h1 := h.maps j o hne ho hc
  rw [hg.block j (blk_lt h1) (fun e => by
    rcases hr2 j e.symm with h2 | ⟨cs, t, f, h2⟩
    · exact hne h2
    · rw [h1] at h2; cases h2; cases hc)]
  exact h1
theorem KeepsM.size (h : KeepsM mb base w w1) : w.heap.size ≤ w1.heap.size := h.k.size
theorem KeepsM.kept (h : KeepsM mb base w w1) (k : Nat) (o : Obj) (ho : w.heap[k]? = some o) (hs : shelf o = false) : w1.heap[k]? = some o := h.k.kept k o ho hs
theorem KeepsM.trans (h : KeepsM mb base w w1) (h' : KeepsM mb base w1 w2) (hs : base ≤ w.heap.size) : KeepsM mb base w w2 :=
  ⟨h.k.trans h'.k hs, fun j o hne ho hc => h'.maps j o hne (h.maps j o hne ho hc) hc⟩
theorem KeepsM.drew (h : KeepsM mb base w w1) : KeepsM mb base w w1.drew := ⟨h.k.drew, h.maps⟩
theorem KeepsM.drewN (h : KeepsM mb base w w1) (n : Nat) : KeepsM mb base w (w1.drewN n) := ⟨h.k.drewN n, h.maps⟩
theorem KeepsM.set (h : KeepsM mb base w w1) (hs : base ≤ w1.heap.size) {b i t : Nat} {cs : Array Value} {fr : Nat × Nat} (hb : w1.heap[b]? = some (.cells cs t fr)) (hbb : base ≤ b) (ht : t = 48 ∨ t = 3 ∨ t = 87) (v : Value) : KeepsM mb base w (w1.setCell ⟨b, i, none⟩ v) :=
  h.grown hs (grownBy_set w1 _ v) (fun k e => by
    have e : b = k := by simpa using e
    subst e
    refine ⟨hbb, fun o ho => ?_⟩
    rw [hb] at ho
    cases ho
    rcases ht with rfl | rfl | rfl <;> rfl) (fun k e => by
    have e : b = k := by simpa using e
    subst e
    exact .inr ⟨cs, t, fr, hb⟩)
end
/-- What the loop over the columns holds behind k rounds. -/
def CInv (base b mb : Nat) (sv : Nat → Value) (I : Nat → List TID) (C : Nat → List Int) (f : TID → Option (Int × Int)) (n m r L s : Nat) (x : TID) (w6 wr : World) (k : Nat) : Prop :=
  ∃ sv' ow', Rep wr base b mb sv' I (Ccut C m r L k) f n ow' ∧ (∀ o, m * 8 + 1 + k ≤ o → sv' o = sv o) ∧ KeepsM mb base w6 wr ∧ wr.heap[s]? = some (.cells #[.int .i64 x.f0, .int .i64 x.f1, .int .i64 x.f2] 48 (0, 0))
theorem CInv.next {base b mb : Nat} {sv : Nat → Value} {I : Nat → List TID} {C : Nat → List Int} {f : TID → Option (Int × Int)} {n m r L s : Nat} {x : TID} {w6 wr : World} {k : Nat} (h : CInv base b mb sv I C f n m r L s x w6 wr k) (hb6 : base ≤ w6.heap.size) {go co : Nat} (ho : m * 8 + 1 + k < 256) (ho8 : (m * 8 + 1 + k) % 8 ≠ 0) (hv : sv (m * 8 + 1 + k) = .slice (some ⟨go, 0, none⟩) (L + 1) co) (hCl : (C (m * 8 + 1 + k)).length = L + 1) (hs1 : s ≠ go) (hs2 : s ≠ b) :
    CInv base b mb sv I C f n m r L s x w6 ((wr.setCell ⟨go, r, none⟩ (.int .i64 ((C (m * 8 + 1 + k)).getD L 0))).setCell ⟨b, m * 8 + 1 + k, none⟩ (.slice (some ⟨go, 0, none⟩) L co)).drew (k + 1) := by
  obtain ⟨sv', ow', R, hsv, K, bi⟩ := h
  have hCk : Ccut C m r L k (m * 8 + 1 + k) = C (m * 8 + 1 + k) := Ccut_at C m r L k
  have hv' : sv' (m * 8 + 1 + k) = .slice (some ⟨go, 0, none⟩) (L + 1) co := by rw [hsv _ (Nat.le_refl _)]; exact hv
  obtain ⟨ow2, R2⟩ := R.cut_col (k := L) (r := r) ho ho8 (g := go) (cap := co) (by rw [hv', hCk, hCl]) (by rw [hCk, hCl]; omega) ((C (m * 8 + 1 + k)).getD L 0)
  rw [hCk, Ccut_succ] at R2
  refine ⟨_, ow2, R2.heap rfl, fun o hoo => ?_, ?_, ?_⟩
  · rw [upd_other _ (by omega)]; exact hsv o (by omega)
  · have hrow := R.cols (m * 8 + 1 + k) ho ho8
    rw [hv'] at hrow
    have hgb := own_base hrow go rfl
    obtain ⟨cells, hgc⟩ := own_typed hrow go rfl
    have K1 := K.set (Nat.le_trans hb6 K.size) (i := r) hgc hgb (.inr (.inl rfl)) (.int .i64 ((C (m * 8 + 1 + k)).getD L 0))
    have hbg : b ≠ go := fun e => by
      have h1 := R.own (m * 8 + 1 + k) go ho (by rw [hv']; rfl)
      rw [← e, R.owb] at h1; omega
    obtain ⟨cs, hbb, _⟩ := R.blk
    exact (K1.set (Nat.le_trans hb6 K1.size) (blk_far hbb (p := ⟨go, r, none⟩) hbg _) R.bb (.inr (.inr rfl)) _).drew
  · exact (Below.heap_setCell _ _ _ s hs2).trans ((Below.heap_setCell _ _ _ s hs1).trans bi)
theorem nums_get (l : List Int) (i : Nat) (h : i < l.length) : (nums .i64 l)[i]? = some (.int .i64 (l.getD i 0)) := by
  rw [List.getD_eq_getElem?_getD, List.getElem?_eq_getElem h]
  simp [nums, h]
set_option maxRecDepth 100000 in
set_option maxHeartbeats 8000000 in
theorem cut_x (w : World) {base b mb : Nat} {sv : Nat → Value} {I : Nat → List TID} {C : Nat → List Int} {f : TID → Option (Int × Int)} {n : Nat} {ow : Nat → Nat} (h : Rep w base b mb sv I C f n ow) (hbase : base ≤ w.heap.size)
    (x : TID) (hx : wfID x) (m r L : Nat) (hm : m < 32) (hL : (I m).length = L + 1) (hL2 : L < 1000) (hr : r < L + 1) (hf : f x = some ((m : Int), (r : Int))) (y : TID) (hy : (I m)[L]? = some y) (hwy : wfID y) (hfy : (f y).isSome = true)
    (hC : ∀ k, k < 7 → (C (m * 8 + 1 + k)).length = L + 1) (hn : n < 100000) :
    Calls Try.prog 57 #[.pointer (some ⟨b, 0, none⟩), .agg #[.int .i64 x.f0, .int .i64 x.f1, .int .i64 x.f2]] w fun e w' => e = .returned (.tuple #[]) ∧ KeepsM mb base w w' ∧
      ∃ sv' ow', Rep w' base b mb sv' (upd I m (((I m).set r y).take L)) (Ccut C m r L 7) (fset (fset f y (some ((m : Int), (r : Int)))) x none) (n - 1) ow' := by
  have hb := h.blt
  have hc := h.mcell
  have hmb := h.map.lt
  obtain ⟨g, cap, hv, hcap⟩ := own_form (h.ids m hm) (by omega)
  have hci : w.cell? ⟨b, m * 8, none⟩ = some (.slice (some ⟨g, 0, none⟩) (L + 1) cap) := by rw [Nat.mul_comm m 8]; exact (h.cell (8 * m) (by omega)).trans (by rw [hv, hL])
  have hlook : ∀ W : World, W.heap[mb]? = w.heap[mb]? → (Instr.lookup 85 (.map (some mb)) (.agg #[.int .i64 x.f0, .int .i64 x.f1, .int .i64 x.f2]) false).run Try.prog W = .ok (.agg #[.int .i64 (m : Int), .int .i64 (r : Int)]) W := fun W hW => by
    have := (h.map.congr hW).look1 x hx
    rw [hf] at this
    exact this
  obtain ⟨w1, hw1⟩ : ∃ w1, w1 = w.alloc (.cells #[.int .i64 x.f0, .int .i64 x.f1, .int .i64 x.f2] 48) := ⟨_, rfl⟩
  have hb1 : Below w.heap.size w w1 := by rw [hw1]; exact below_alloc (Below.refl _ _) _
  have bi : w1.heap[w.heap.size]? = some (.cells #[.int .i64 x.f0, .int .i64 x.f1, .int .i64 x.f2] 48 (0, 0)) := by rw [hw1]; exact heap_alloc_new w _
  have i0 : w1.cell? ⟨w.heap.size, 0, none⟩ = some (.int .i64 x.f0) := (blk_cell bi 0).trans rfl
  have i1 : w1.cell? ⟨w.heap.size, 1, none⟩ = some (.int .i64 x.f1) := (blk_cell bi 1).trans rfl
  have i2 : w1.cell? ⟨w.heap.size, 2, none⟩ = some (.int .i64 x.f2) := (blk_cell bi 2).trans rfl
  have hc1 := pw_cell_below hb1 hc
  have hci1 := pw_cell_below hb1 hci
  have k0 : (0 : Int) ≤ (m : Int) := by omega
  have k1 : (m : Int) < 32 := by omega
  have hk1 := hlook w1 (hb1.block mb hmb)
  have hk2 := hlook w1.drew (hb1.block mb hmb)
  have hk3 := fun o => hlook (w1.alloc o).drew ((heap_old w1 o mb (Nat.lt_of_lt_of_le hmb hb1.size)).trans (hb1.block mb hmb))
  have hlt1 : b < w1.heap.size := Nat.lt_of_lt_of_le hb hb1.size
  have hlt2 : w.heap.size < w1.heap.size := blk_lt bi
  have hsz1 : w1.heap.size = w.heap.size + 1 := by rw [hw1]; simp
  have HR := Aside0.mk h
  have HB1 := Aside0.mk hb1
  have BI := Aside0.mk bi
  have HCI := Aside0.mk hci
  have HV := Aside0.mk hv
  have HLEN := Aside0.mk hL
  have HF := Aside0.mk hf
  have HFY := Aside0.mk hfy
  have HC := Aside0.mk hC
  have HY := Aside0.mk hy
  have HSZ1 := Aside0.mk hsz1
  clear h hb1 bi hci hv hL hf hfy hC hy hlook hc hsz1
  go_enter Try.func57, Try.ntmps57
  go_wp2
  rw [← hw1]
  clear hw1
  go_region
  go_wp2
  go_region
  go_wp2
  obtain ⟨w2, hw2⟩ : ∃ w2, w2 = (w1.alloc (.cells #[.int .i64 (m : Int), .int .i64 (r : Int)] 81)).drew.drew := ⟨_, rfl⟩
  rw [← hw2]
  have hb2 : Below w.heap.size w w2 := by rw [hw2]; exact below_drew (below_drew (below_alloc HB1.out _))
  have bi2 : w2.heap[w.heap.size]? = some (.cells #[.int .i64 x.f0, .int .i64 x.f1, .int .i64 x.f2] 48 (0, 0)) := by rw [hw2]; exact (heap_old w1 _ _ hlt2).trans BI.out
  have bp2 : w2.heap[w1.heap.size]? = some (.cells #[.int .i64 (m : Int), .int .i64 (r : Int)] 81 (0, 0)) := by rw [hw2]; exact heap_alloc_new w1 _
  have p0 : w2.cell? ⟨w1.heap.size, 0, none⟩ = some (.int .i64 (m : Int)) := (blk_cell bp2 0).trans rfl
  have p1 : w2.cell? ⟨w1.heap.size, 1, none⟩ = some (.int .i64 (r : Int)) := (blk_cell bp2 1).trans rfl
  have hR2 := HR.out.below hb2
  have hci2 := pw_cell_below hb2 HCI.out
  have hcm2 := hR2.mcell
  have hrow := hR2.ids m hm
  rw [HV.out, HLEN.out] at hrow
  have r0 : (0 : Int) ≤ (r : Int) := by omega
  have r1 : (r : Int) < (L : Int) + 1 := by omega
  have l0 : (0 : Int) ≤ (L : Int) := by omega
  have l1 : (L : Int) < (L : Int) + 1 := by omega
  have hyc := idCells_get (I m) L (by have := HLEN.out; omega)
  have hyy : (I m)[L]'(by have := HLEN.out; omega) = y := by
    have := HY.out
    rw [List.getElem?_eq_getElem (by have := HLEN.out; omega)] at this
    exact Option.some.inj this
  rw [hyy] at hyc
  have y0 := own_cell hrow (L * 3) _ hyc.1
  have y1 := own_cell hrow (L * 3 + 1) _ hyc.2.1
  have y2 := own_cell hrow (L * 3 + 2) _ hyc.2.2
  have hrc := idCells_get (I m) r (by have := HLEN.out; omega)
  have z0 := own_cell hrow (r * 3) _ hrc.1
  have z1 := own_cell hrow (r * 3 + 1) _ hrc.2.1
  have z2 := own_cell hrow (r * 3 + 2) _ hrc.2.2
  have f0 := own_frozen hrow (r * 3)
  have f1 := own_frozen hrow (r * 3 + 1)
  have f2 := own_frozen hrow (r * 3 + 2)
  have HROW := Aside0.mk hrow
  have HR2 := Aside0.mk hR2
  have HB2 := Aside0.mk hb2
  have BI2 := Aside0.mk bi2
  have BP2 := Aside0.mk bp2
  clear hw2 hyc hyy hrc hrow hR2 hb2 bi2 bp2 hk1 hk2 hk3 i0 i1 i2 hc1 hci1
  go_still_tail 14, (by kernel_rfl)
  change wpList _ _ _ _ _ (World.drew _)
  go_wp2
  have hgl : g < w.heap.size := own_lt (HR.out.ids m hm) g (by rw [HV.out]; rfl)
  have hgb : g ≠ b := fun e => by
    have h1 := HR.out.own (8 * m) g (by omega) (by rw [HV.out]; rfl)
    rw [e, HR.out.owb] at h1; omega
  have hgm : g ≠ mb := fun e => by
    have h1 := HR.out.own (8 * m) g (by omega) (by rw [HV.out]; rfl)
    rw [e, HR.out.owm] at h1; omega
  obtain ⟨w3, hw3⟩ : ∃ w3, w3 = (((w2.setCell ⟨g, r * 3, none⟩ (.int .i64 y.f0)).setCell ⟨g, r * 3 + 1, none⟩ (.int .i64 y.f1)).setCell ⟨g, r * 3 + 2, none⟩ (.int .i64 y.f2)).drew := ⟨_, rfl⟩
  rw [← hw3]
  have hg23 : w2.grownBy w3 (some g) := by rw [hw3]; exact grownBy_drew (grownBy_trans (grownBy_trans (grownBy_set w2 _ _) (grownBy_set _ _ _)) (grownBy_set _ _ _))
  have hR3 : Rep w3 base b mb sv (upd I m ((I m).set r y)) C f n ow := by
    rw [hw3]
    exact (HR2.out.set_id hm HV.out (by have := HLEN.out; omega) y).heap rfl
  have hkeep : ∀ k, k < w2.heap.size → k ≠ g → w3.heap[k]? = w2.heap[k]? := fun k hk hne => hg23.block k hk (fun e => hne (by simpa using e))
  have hbl2 := HB2.out.size
  have hI3 : upd I m ((I m).set r y) m = (I m).set r y := upd_same _ _ _
  have hrow3 := hR3.ids m hm
  rw [hI3, List.length_set, HV.out, HLEN.out] at hrow3
  have hk3 : KeepsM mb base w w3 := by
    have K0 : KeepsM mb base w w2 := KeepsM.of_below hbase HB2.out
    refine K0.grown (Nat.le_trans hbase hbl2) hg23 (fun k e => ?_) ?_
    · have e' : g = k := by simpa using e
      subst e'
      exact HR2.out.row_shelf (o := 8 * m) (by omega) g (by rw [HV.out]; rfl)
    · intro k e
      have e' : g = k := by simpa using e
      subst e'
      have hrw := HR2.out.ids m hm
      rw [HV.out] at hrw
      obtain ⟨cells, hgc⟩ := own_typed hrw g rfl
      exact .inr ⟨_, _, _, hgc⟩
  have hlt1' : w1.heap.size < w2.heap.size := blk_lt BP2.out
  have bi3 : w3.heap[w.heap.size]? = some (.cells #[.int .i64 x.f0, .int .i64 x.f1, .int .i64 x.f2] 48 (0, 0)) := (hkeep _ (blk_lt BI2.out) (by omega)).trans BI2.out
  have bp3 : w3.heap[w1.heap.size]? = some (.cells #[.int .i64 (m : Int), .int .i64 (r : Int)] 81 (0, 0)) := (hkeep _ hlt1' (by have := HSZ1.out; omega)).trans BP2.out
  have p0' : w3.cell? ⟨w1.heap.size, 0, none⟩ = some (.int .i64 (m : Int)) := (blk_cell bp3 0).trans rfl
  have p1' : w3.cell? ⟨w1.heap.size, 1, none⟩ = some (.int .i64 (r : Int)) := (blk_cell bp3 1).trans rfl
  have hci3 : w3.cell? ⟨b, m * 8, none⟩ = some (.slice (some ⟨g, 0, none⟩) (L + 1) cap) := (World.cell?_of_block (hkeep b (by omega) (Ne.symm hgb))).trans hci2
  have hcm3 := hR3.mcell
  have hsl : ((I m).set r y).length = L + 1 := by rw [List.length_set]; exact HLEN.out
  have hyc := idCells_get ((I m).set r y) r (by omega)
  rw [List.getElem_set_self] at hyc
  have n0 := own_cell hrow3 (r * 3) _ hyc.1
  have n1 := own_cell hrow3 (r * 3 + 1) _ hyc.2.1
  have n2 := own_cell hrow3 (r * 3 + 2) _ hyc.2.2
  obtain ⟨U, hU⟩ := hR3.map.store_fn y hwy ((m : Int), (r : Int)) (by unfold maxLen; omega)
  have hu1 := (hU w3 rfl).1
  have hu2 := (hU w3.drew rfl).1
  unfold idV placeV at hu1 hu2
  have HU := Aside0.mk hU
  have HR3 := Aside0.mk hR3
  have HK3 := Aside0.mk hk3
  have BI3 := Aside0.mk bi3
  have BP3 := Aside0.mk bp3
  have HROW3 := Aside0.mk hrow3
  have HGB := Aside0.mk hgb
  have HGM := Aside0.mk hgm
  clear hw3 hg23 hR3 hkeep hI3 hrow3 hk3 bi3 bp3 hsl hyc hU p0 p1 hci2 hcm2 y0 y1 y2 z0 z1 z2 f0 f1 f2 hgb hgm hbl2 hlt1'
  obtain ⟨w4, hw4⟩ : ∃ w4, w4 = U w3.drew := ⟨_, rfl⟩
  rw [← hw4] at hu2
  obtain ⟨hjunk, hpm4, htu4⟩ := HU.out w3.drew rfl
  clear hjunk
  rw [← hw4] at hpm4 htu4
  rw [HFY.out, if_pos rfl] at hpm4
  have hR4 : Rep w4 base b mb sv (upd I m ((I m).set r y)) C (fset f y (some ((m : Int), (r : Int)))) n ow := (HR3.out.heap (w' := w3.drew) rfl).turned hpm4 htu4
  have hkeep : ∀ k, k < w3.heap.size → k ≠ mb → w4.heap[k]? = w3.heap[k]? := fun k hk hne => htu4.grown.block k hk (fun e => hne (by simpa using e))
  have hK4 : KeepsM mb base w w4 := HK3.out.drew.grown (Nat.le_trans hbase HK3.out.size) htu4.grown (fun k e => by
    have e' : mb = k := by simpa using e
    subst e'
    refine ⟨HR3.out.bm, fun o ho => ?_⟩
    obtain ⟨D, ⟨es, clock, hmm, _⟩, _⟩ := HR3.out.map
    have ho' : w3.heap[mb]? = some o := ho
    rw [hmm] at ho'; cases ho'; rfl) (fun k e => .inl (by simpa using e.symm))
  have hs3 := HK3.out.size
  have bi4 : w4.heap[w.heap.size]? = some (.cells #[.int .i64 x.f0, .int .i64 x.f1, .int .i64 x.f2] 48 (0, 0)) := (hkeep _ (blk_lt BI3.out) (by omega)).trans BI3.out
  have bp4 : w4.heap[w1.heap.size]? = some (.cells #[.int .i64 (m : Int), .int .i64 (r : Int)] 81 (0, 0)) := (hkeep _ (blk_lt BP3.out) (by have := HSZ1.out; omega)).trans BP3.out
  have hbm : b ≠ mb := fun e => by have h1 := HR.out.owb; rw [e, HR.out.owm] at h1; omega
  have hci4 : w4.cell? ⟨b, m * 8, none⟩ = some (.slice (some ⟨g, 0, none⟩) (L + 1) cap) := (World.cell?_of_block (hkeep b (by omega) hbm)).trans hci3
  have hfz4 := hR4.frozen (m * 8)
  have HR4 := Aside0.mk hR4
  have HK4 := Aside0.mk hK4
  have BI4 := Aside0.mk bi4
  have BP4 := Aside0.mk bp4
  have HBM := Aside0.mk hbm
  have hlc : (L : Int) ≤ (cap : Int) := by have := HLEN.out; omega
  have hlc2 : L ≤ cap := by have := HLEN.out; omega
  clear hw4 hpm4 htu4 hR4 hkeep hK4 bi4 bp4 hbm hu1
  go_still_tail 13, (by kernel_rfl)
  change wpList _ _ _ _ _ (World.drew _)
  go_wp2_with fail
  obtain ⟨w5, hw5⟩ : ∃ w5, w5 = w4.setCell ⟨b, m * 8, none⟩ (.slice (some ⟨g, 0, none⟩) L cap) := ⟨_, rfl⟩
  rw [← hw5]
  have hl4 : (upd I m ((I m).set r y) m).length = L + 1 := by rw [upd_same, List.length_set]; exact HLEN.out
  obtain ⟨ow5, hR5⟩ := HR4.out.cut_id (k := L) hm (g := g) (cap := cap) (by rw [HV.out, hl4, HLEN.out]) (by omega)
  rw [Nat.mul_comm 8 m, ← hw5] at hR5
  have hI5 : upd (upd I m ((I m).set r y)) m ((upd I m ((I m).set r y) m).take L) = upd I m (((I m).set r y).take L) := by
    funext k
    by_cases e : k = m
    · subst e; rw [upd_same, upd_same, upd_same]
    · rw [upd_other _ e, upd_other _ e, upd_other _ e]
  rw [hI5] at hR5
  have hK5 : KeepsM mb base w w5 := by
    obtain ⟨cs, hbb, _⟩ := HR4.out.blk
    rw [hw5]
    exact HK4.out.set (Nat.le_trans hbase HK4.out.size) hbb HR4.out.bb (.inr (.inr rfl)) _
  have hk5 : ∀ k, k ≠ b → w5.heap[k]? = w4.heap[k]? := fun k hne => by rw [hw5]; exact Below.heap_setCell w4 _ _ k hne
  have bi5 : w5.heap[w.heap.size]? = some (.cells #[.int .i64 x.f0, .int .i64 x.f1, .int .i64 x.f2] 48 (0, 0)) := (hk5 _ (by omega)).trans BI4.out
  have bp5 : w5.heap[w1.heap.size]? = some (.cells #[.int .i64 (m : Int), .int .i64 (r : Int)] 81 (0, 0)) := (hk5 _ (by omega)).trans BP4.out
  have hsv5 : ∀ o, o ≠ m * 8 → upd sv (m * 8) (.slice (some ⟨g, 0, none⟩) L cap) o = sv o := fun o ho => upd_other _ ho _
  have hcb := hR5.cell (m * 8) (by omega)
  have HR5 := Aside0.mk hR5
  have HK5 := Aside0.mk hK5
  have BI5 := Aside0.mk bi5
  have BP5 := Aside0.mk bp5
  have HSV5 := Aside0.mk hsv5
  clear hw5 hl4 hR5 hI5 hK5 hk5 bi5 bp5 hsv5 hci4 hfz4 hu2 n0 n1 n2 hci3 hcm3 p0' p1'
  refine (columns_x b (m * 8) _ _ hcb).mono ?_
  rintro e w6 ⟨rfl, hw6⟩
  have hb6 : Below w5.heap.size w5 w6 := by rw [hw6]; repeat (first | exact Below.refl _ _ | apply below_alloc | apply below_drew)
  have hcol : w6.heap[w5.heap.size]? = some (.cells #[.pointer (some ⟨b, m * 8 + 1, none⟩), .pointer (some ⟨b, m * 8 + 2, none⟩), .pointer (some ⟨b, m * 8 + 3, none⟩), .pointer (some ⟨b, m * 8 + 4, none⟩), .pointer (some ⟨b, m * 8 + 5, none⟩), .pointer (some ⟨b, m * 8 + 6, none⟩), .pointer (some ⟨b, m * 8 + 7, none⟩)] 104 (0, 0)) := by rw [hw6]; exact heap_alloc_new w5 _
  have hR6 := HR5.out.below hb6
  have hK6 : KeepsM mb base w w6 := HK5.out.trans (KeepsM.of_below (Nat.le_trans hbase HK5.out.size) hb6) hbase
  have bi6 := (hb6.block _ (blk_lt BI5.out)).trans BI5.out
  have bp6 := (hb6.block _ (blk_lt BP5.out)).trans BP5.out
  have HR6 := Aside0.mk hR6
  have HK6 := Aside0.mk hK6
  have BI6 := Aside0.mk bi6
  have BP6 := Aside0.mk bp6
  have HCOL := Aside0.mk hcol
  have HSZ6 : Aside0 (w5.heap.size < w6.heap.size) := Aside0.mk (blk_lt hcol)
  clear hw6 hb6 hcol hR6 hK6 bi6 bp6 hcb
  obtain ⟨kb, hkb⟩ : ∃ kb, kb = w5.heap.size := ⟨_, rfl⟩
  rw [← hkb] at HCOL ⊢
  have HKB := Aside0.mk hkb
  clear hkb
  go_wp2
  go_loopg [66] 7 (fun gq v66 wr => ∃ k : Nat, v66 = .int .i64 k ∧ k + gq = 7 ∧ Aside0 (CInv base b mb sv (upd I m (((I m).set r y).take L)) C (fset f y (some ((m : Int), (r : Int)))) n m r L w.heap.size x w6 wr k))
  case atStart => exact ⟨0, rfl, rfl, ⟨_, ow5, by rw [Ccut_zero]; exact HR6.out, fun o ho => HSV5.out o (by omega), KeepsM.refl _ _ _, BI6.out⟩⟩
  case round =>
    obtain ⟨k, rfl, hk, HI⟩ := hrel
    cases gk with
    | zero =>
      have hk7 : k = 7 := by omega
      subst hk7
      obtain ⟨sv', ow', R, hsv, K, bi⟩ := HI.out
      have hsome : ((fset f y (some ((m : Int), (r : Int)))) x).isSome = true := by
        by_cases e : x = y
        · rw [e, fset_same]; rfl
        · rw [fset_other f e, HF.out]; rfl
      obtain ⟨U2, hU2⟩ := R.map.drop_fn x hx hsome 0
      obtain ⟨w9, hw9⟩ : ∃ w9, w9 = U2 wr.drew := ⟨_, rfl⟩
      obtain ⟨hd1, hd2, hd3⟩ := hU2 wr.drew rfl
      rw [← hw9] at hd1 hd2 hd3
      have hR9 := (R.heap (w' := wr.drew) rfl).turned hd2 hd3
      have HR9 := Aside0.mk hR9
      have hK9 : KeepsM mb base w w9 := (HK6.out.trans K hbase).drew.grown (Nat.le_trans hbase (HK6.out.trans K hbase).size) hd3.grown (fun k e => by
        have e' : mb = k := by simpa using e
        subst e'
        refine ⟨R.bm, fun o ho => ?_⟩
        obtain ⟨D, ⟨es, clock, hmm, _⟩, _⟩ := R.map
        have ho' : wr.heap[mb]? = some o := ho
        rw [hmm] at ho'; cases ho'; rfl) (fun k e => .inl (by simpa using e.symm))
      have HK9 := Aside0.mk hK9
      have i0 : wr.cell? ⟨w.heap.size, 0, none⟩ = some (.int .i64 x.f0) := (blk_cell bi 0).trans rfl
      have i1 : wr.cell? ⟨w.heap.size, 1, none⟩ = some (.int .i64 x.f1) := (blk_cell bi 1).trans rfl
      have i2 : wr.cell? ⟨w.heap.size, 2, none⟩ = some (.int .i64 x.f2) := (blk_cell bi 2).trans rfl
      have hmc9 := R.mcell
      unfold idV at hd1
      clear hw9 hd2 hd3 hR9 hK9 hU2 hsome R hsv K bi
      go_wp2
      go_still_tail 5, (by kernel_rfl)
      change wpList _ _ _ _ _ (World.drew _)
      go_wp2
      go_end0
      exact ⟨rfl, HK9.out, sv', ow', HR9.out⟩
    | succ gk' =>
      have hk7 : (k : Int) < 7 := by omega
      have hk0 : (0 : Int) ≤ (k : Int) := by omega
      have hkn : k < 7 := by omega
      obtain ⟨sv', ow', R, hsv, K, bi⟩ := HI.out
      have ho : m * 8 + 1 + k < 256 := by omega
      have ho8 : (m * 8 + 1 + k) % 8 ≠ 0 := by omega
      have hCk : Ccut C m r L k (m * 8 + 1 + k) = C (m * 8 + 1 + k) := Ccut_at C m r L k
      have hCl := HC.out k hkn
      have hrow := R.cols (m * 8 + 1 + k) ho ho8
      rw [hCk, hCl] at hrow
      obtain ⟨go, co, hvo, hco⟩ := own_form hrow (by omega)
      rw [hvo] at hrow
      have hcr : wr.cell? ⟨b, m * 8 + 1 + k, none⟩ = some (.slice (some ⟨go, 0, none⟩) (L + 1) co) := (R.cell _ ho).trans (by rw [hvo])
      have hfr := R.frozen (m * 8 + 1 + k)
      have hcc := (blk_cell (K.kept _ _ HCOL.out rfl) k).trans (col_ptr b (m * 8) k hkn)
      have bpr := K.kept _ _ BP6.out rfl
      have p0 : wr.cell? ⟨w1.heap.size, 0, none⟩ = some (.int .i64 (m : Int)) := (blk_cell bpr 0).trans rfl
      have p1 : wr.cell? ⟨w1.heap.size, 1, none⟩ = some (.int .i64 (r : Int)) := (blk_cell bpr 1).trans rfl
      obtain ⟨yo, hyo⟩ : ∃ yo, yo = (C (m * 8 + 1 + k)).getD L 0 := ⟨_, rfl⟩
      have e0 := own_cell hrow L _ (nums_get _ L (by omega))
      rw [← hyo] at e0
      have e1 := own_cell hrow r _ (nums_get _ r (by omega))
      have e2 := own_frozen hrow r
      have hgob : go ≠ b := fun e => by
        have h1 := R.own (m * 8 + 1 + k) go ho (by rw [hvo]; rfl)
        rw [e, R.owb] at h1; omega
      have hgol : go < w.heap.size := by
        have h1 := hsv (m * 8 + 1 + k) (Nat.le_refl _)
        rw [hvo] at h1
        exact own_lt (HR.out.cols (m * 8 + 1 + k) ho ho8) go (by rw [← h1]; rfl)
      have HVO := Aside0.mk hvo
      have HYO := Aside0.mk hyo
      have HCK := Aside0.mk hCk
      have HCL := Aside0.mk hCl
      have HRR := Aside0.mk R
      have HSVV := Aside0.mk hsv
      have HKK := Aside0.mk K
      have HBI := Aside0.mk bi
      have HROWO := Aside0.mk hrow
      have HGO := Aside0.mk hgob
      have hbr := R.blt
      have hgr := own_lt hrow go rfl
      have hpl := blk_lt bpr
      have hbgo : ¬ b = go := fun e => hgob e.symm
      have hlco : L ≤ co := by omega
      have hlco2 : (L : Int) ≤ (co : Int) := by omega
      have hvs : sv (m * 8 + 1 + k) = .slice (some ⟨go, 0, none⟩) (L + 1) co := by rw [← hsv _ (Nat.le_refl _)]; exact hvo
      have HNX := Aside0.mk (HI.out.next (Nat.le_trans hbase HK6.out.size) ho ho8 hvs hCl (by omega) (by omega))
      rw [← hyo] at HNX
      clear hvo hyo hCk hCl R hsv K bi hrow bpr hgob hvs
      go_wp2
      go_still_tail 12, (by kernel_rfl)
      change wpList _ _ _ _ _ (World.drew _)
      go_wp2
      go_roundg gk'
      case measure => omega
      case rel => exact ⟨k + 1, by go_num, by omega, HNX⟩
end Go.Proofs.Ythcgiacjmfmamaa.PA

namespace Go.Proofs.Ythcgiacjmfmamaa.PA
set_option linter.unusedVariables false
set_option linter.unusedSimpArgs false
open Go.RowKit Go.Proofs.YthcgiacjmfmamaaW.PrintWords
/-- Row r of table m is taken out, the last one put there. -/
def delT (T : Nat → List TB) (m r L : Nat) (y : TB) : Nat → List TB := upd T m (((T m).set r y).take L)
theorem del_perm {A : List TB} {r L : Nat} {x y : TB} (hl : A.length = L + 1) (hr : A[r]? = some x) (hy : A[L]? = some y) : (x :: (A.set r y).take L).Perm A := by
  obtain ⟨hr1, hr2⟩ := List.getElem?_eq_some_iff.1 hr
  obtain ⟨hL1, hL2⟩ := List.getElem?_eq_some_iff.1 hy
  have hA : A = A.take L ++ [y] := by
    have h1 := List.take_append_drop L A
    rw [List.drop_eq_getElem_cons hL1, hL2, List.drop_eq_nil_of_le (by omega)] at h1
    exact h1.symm
  by_cases e : r = L
  · subst e
    have hxy : x = y := hr2.symm.trans hL2
    have hs : A.set r y = A := by
      rw [← hL2]; exact List.set_getElem_self hL1
    rw [hs, hxy]
    refine List.Perm.trans ?_ (List.Perm.of_eq hA.symm)
    have := List.perm_append_comm (l₁ := [y]) (l₂ := A.take r)
    exact this
  · have hrL : r < L := by omega
    have hB : (A.set r y).take L = (A.take L).set r y := by rw [List.take_set]
    have hbl : (A.take L).length = L := by rw [List.length_take]; omega
    have hbr : (A.take L)[r]'(by omega) = x := by rw [List.getElem_take]; exact hr2
    rw [hB, List.set_eq_take_append_cons_drop, if_pos (by omega)]
    have hsplit : A.take L = (A.take L).take r ++ x :: (A.take L).drop (r + 1) := by
      have h1 := List.take_append_drop r (A.take L)
      rw [List.drop_eq_getElem_cons (by omega), hbr] at h1
      exact h1.symm
    refine List.Perm.trans ?_ (List.Perm.of_eq hA.symm)
    generalize (A.take L).take r = P at *
    generalize (A.take L).drop (r + 1) = Q at *
    rw [hsplit]
    refine List.Perm.trans (List.Perm.cons x List.perm_middle) ?_
    refine List.Perm.trans (List.Perm.swap y x (P ++ Q)) ?_
    refine List.Perm.trans ?_ (List.perm_append_comm (l₁ := [y]) (l₂ := P ++ x :: Q))
    exact List.Perm.cons y List.perm_middle.symm
theorem flatMap_del (T : Nat → List TB) (m : Nat) (x : TB) (B : List TB) (hB : (x :: B).Perm (T m)) : ∀ R : List Nat, R.Nodup → (m ∉ R → R.flatMap (upd T m B) = R.flatMap T) ∧ (m ∈ R → (x :: R.flatMap (upd T m B)).Perm (R.flatMap T)) := by
  intro R
  induction R with
  | nil => intro _; exact ⟨fun _ => rfl, fun h => by cases h⟩
  | cons a R ih =>
    intro hn
    obtain ⟨h1, h2⟩ := List.nodup_cons.1 hn
    obtain ⟨i1, i2⟩ := ih h2
    constructor
    · intro h
      rw [List.flatMap_cons, List.flatMap_cons, upd_other _ (fun e => h (by rw [e]; exact List.mem_cons_self)), i1 (fun e => h (List.mem_cons_of_mem _ e))]
    · intro h
      rw [List.flatMap_cons, List.flatMap_cons]
      by_cases e : a = m
      · rw [e, upd_same, i1 (e ▸ h1), ← List.cons_append]
        exact hB.append_right _
      · rw [upd_other _ e]
        have hm : m ∈ R := by rcases List.mem_cons.1 h with h | h; exact absurd h.symm e; exact h
        exact (List.perm_middle.symm).trans ((i2 hm).append_left (T a))
theorem idsOf_del (T : Nat → List TB) (m r L : Nat) (y : TB) : idsOf (delT T m r L y) = upd (idsOf T) m (((idsOf T m).set r y.f0).take L) := by
  funext k
  unfold idsOf delT upd
  by_cases e : k = m
  · rw [if_pos e, if_pos e, List.map_take, List.map_set]
  · rw [if_neg e, if_neg e]
theorem colsOf_del (T : Nat → List TB) (m r L : Nat) (y : TB) (hy : (T m)[L]? = some y) (o : Nat) (ho : o < 256) (h8 : o % 8 ≠ 0) : colsOf (delT T m r L y) o = Ccut (colsOf T) m r L 7 o := by
  unfold colsOf delT upd Ccut
  dsimp only
  rw [if_pos ho, if_pos ho]
  by_cases e : o / 8 = m
  · rw [if_pos e, if_pos (by omega), List.map_take, List.map_set, e]
    congr 2
    rw [List.getD_eq_getElem?_getD, List.getElem?_map, hy]
    rfl
  · rw [if_neg e, if_neg (by omega)]
theorem LocT.del {T : Nat → List TB} {f : TID → Option (Int × Int)} (h : LocT T f) {m r L : Nat} {x y : TB} (hm : m < 32) (hl : (T m).length = L + 1) (hr : (T m)[r]? = some x) (hy : (T m)[L]? = some y) : LocT (delT T m r L y) (fset (fset f y.f0 (some ((m : Int), (r : Int)))) x.f0 none) := by
  have hfx := h.here m r x hm hr
  have hfy := h.here m L y hm hy
  have hrl : r < L + 1 := by have := (List.getElem?_eq_some_iff.1 hr).1; omega
  have hget : ∀ i, i < L → (((T m).set r y).take L)[i]? = if i = r then some y else (T m)[i]? := fun i hi => by
    rw [List.getElem?_take_of_lt hi, List.getElem?_set]
    by_cases e : r = i
    · rw [if_pos e, if_pos e.symm, if_pos (by omega)]
    · rw [if_neg e, if_neg (Ne.symm e)]
  have hlen : (((T m).set r y).take L).length = L := by rw [List.length_take, List.length_set]; omega
  have key : ∀ (k i : Nat) (z : TB), k < 32 → (T k)[i]? = some z → ¬ (k = m ∧ i = r) → ¬ (k = m ∧ i = L) → fset (fset f y.f0 (some ((m : Int), (r : Int)))) x.f0 none z.f0 = some ((k : Int), (i : Int)) := fun k i z hk hz n1 n2 => by
    have hfz := h.here k i z hk hz
    rw [fset_other _ (fun e => ?_), fset_other _ (fun e => ?_)]
    · exact hfz
    · rw [e, hfy] at hfz
      simp at hfz
      exact n2 ⟨by omega, by omega⟩
    · rw [e, hfx] at hfz
      simp at hfz
      exact n1 ⟨by omega, by omega⟩
  constructor
  · intro k i z hk hz
    unfold delT at hz
    by_cases e : k = m
    · subst e
      rw [upd_same] at hz
      have hi : i < L := by have := (List.getElem?_eq_some_iff.1 hz).1; omega
      rw [hget i hi] at hz
      by_cases ei : i = r
      · rw [if_pos ei] at hz
        have ez : y = z := Option.some.inj hz
        subst ez
        rw [ei, fset_other _ (fun e => ?_), fset_same]
        rw [e, hfx] at hfy
        simp at hfy
        omega
      · rw [if_neg ei] at hz
        exact key k i z hk hz (fun e => ei e.2) (fun e => by omega)
    · rw [upd_other _ e] at hz
      exact key k i z hk hz (fun e2 => e e2.1) (fun e2 => e e2.1)
  · intro id p hp
    by_cases e1 : id = x.f0
    · rw [e1, fset_same] at hp; cases hp
    · rw [fset_other _ e1] at hp
      by_cases e2 : id = y.f0
      · rw [e2, fset_same] at hp
        have hrL : r ≠ L := fun e => by
          rw [e] at hr
          rw [hr] at hy
          exact e1 (by rw [e2, Option.some.inj hy])
        refine ⟨m, r, y, hm, ?_, e2.symm, (Option.some.inj hp).symm⟩
        unfold delT
        rw [upd_same, hget r (by omega), if_pos rfl]
      · rw [fset_other _ e2] at hp
        obtain ⟨k, i, z, hk, hz, hzi, hpp⟩ := h.there id p hp
        refine ⟨k, i, z, hk, ?_, hzi, hpp⟩
        unfold delT
        by_cases e : k = m
        · subst e
          have hir : i ≠ r := fun e => by
            rw [e] at hz
            rw [hz] at hr
            exact e1 (by rw [← hzi, Option.some.inj hr])
          have hiL : i ≠ L := fun e => by
            rw [e] at hz
            rw [hz] at hy
            exact e2 (by rw [← hzi, Option.some.inj hy])
          have hi : i < L := by have := (List.getElem?_eq_some_iff.1 hz).1; omega
          rw [upd_same, hget i hi, if_neg hir]
          exact hz
        · rw [upd_other _ e]; exact hz
/-- Block b is a store that holds T's entities, block mb its map. -/
structure StoM (w : World) (base b mb : Nat) (T : Nat → List TB) : Prop where
  ex : ∃ sv f ow, Rep w base b mb sv (idsOf T) (colsOf T) f (toL T).length ow ∧ LocT T f
  ok : ∀ m x, m < 32 → x ∈ T m → x.f1 = (m : Int) ∧ OkB x
theorem StoM.sto {w : World} {base b mb : Nat} {T : Nat → List TB} (h : StoM w base b mb T) : Sto w base b T := by
  obtain ⟨⟨sv, f, ow, hr, hl⟩, hk⟩ := h
  exact ⟨⟨mb, sv, f, ow, hr, hl⟩, hk⟩
theorem Sto.m {w : World} {base b : Nat} {T : Nat → List TB} (h : Sto w base b T) : ∃ mb, StoM w base b mb T := by
  obtain ⟨⟨mb, sv, f, ow, hr, hl⟩, hk⟩ := h
  exact ⟨mb, ⟨sv, f, ow, hr, hl⟩, hk⟩
theorem StoM.below {w w' : World} {base b mb : Nat} {T : Nat → List TB} (h : StoM w base b mb T) (hb : Below w.heap.size w w') : StoM w' base b mb T := by
  obtain ⟨⟨sv, f, ow, hr, hl⟩, hk⟩ := h
  exact ⟨⟨sv, f, ow, hr.below hb, hl⟩, hk⟩
/-- cut at the lists: what is named is taken out. -/
theorem cut_stoM (w : World) {base b mb : Nat} {T : Nat → List TB} (h : StoM w base b mb T) (hbase : base ≤ w.heap.size) (hn : (toL T).length < 1000) (x : TB) (hx : x ∈ toL T) :
    Calls Try.prog 57 #[.pointer (some ⟨b, 0, none⟩), .agg #[.int .i64 x.f0.f0, .int .i64 x.f0.f1, .int .i64 x.f0.f2]] w fun e w' => e = .returned (.tuple #[]) ∧ KeepsM mb base w w' ∧ ∃ T', StoM w' base b mb T' ∧ (x :: toL T').Perm (toL T) := by
  have hwfx := ((h.sto.mem hx).1).wf
  have hall : ∀ z, z ∈ toL T → wfID z.f0 := fun z hz => ((h.sto.mem hz).1).wf
  obtain ⟨⟨sv, f, ow, hR, hl⟩, hk⟩ := h
  obtain ⟨m, hm, hxm⟩ := mem_toL.1 hx
  obtain ⟨r, hr⟩ := List.getElem?_of_mem hxm
  have hrl := (List.getElem?_eq_some_iff.1 hr).1
  obtain ⟨L, hL⟩ : ∃ L, (T m).length = L + 1 := ⟨(T m).length - 1, by omega⟩
  have hLt : L < (T m).length := by omega
  obtain ⟨y, hyd⟩ : ∃ y, y = (T m)[L] := ⟨_, rfl⟩
  have hy : (T m)[L]? = some y := by rw [hyd]; exact List.getElem?_eq_getElem hLt
  have hym : y ∈ toL T := mem_toL.2 ⟨m, hm, List.mem_of_getElem? hy⟩
  have hlm := len_le (T := T) hm
  have hfx := hl.here m r x hm hr
  have hfy := hl.here m L y hm hy
  have hp := del_perm hL hr hy
  have hpp := (flatMap_del T m x _ hp (List.range 32) List.nodup_range).2 (List.mem_range.2 hm)
  refine (cut_x w hR hbase x.f0 hwfx m r L hm (by rw [idsOf_len]; exact hL) (by omega) (by omega) hfx y.f0 (by simp [idsOf, hy]) (hall y hym) (by rw [hfy]; rfl)
    (fun k hk7 => by rw [colsOf_len T _ (by omega), show (m * 8 + 1 + k) / 8 = m by omega]; exact hL) (by omega)).mono ?_
  rintro e w' ⟨rfl, hK, sv', ow', hR'⟩
  refine ⟨rfl, hK, delT T m r L y, ⟨⟨sv', _, ow', ?_, hl.del hm hL hr hy⟩, ?_⟩, hpp⟩
  · have hlen : (toL (delT T m r L y)).length = (toL T).length - 1 := by
      have h2 : (x :: toL (delT T m r L y)).length = (toL T).length := hpp.length_eq
      rw [List.length_cons] at h2
      omega
    rw [hlen]
    exact hR'.congr (fun k _ => by rw [idsOf_del]) (fun o ho h8 => colsOf_del T m r L y hy o ho h8)
  · intro k z hk' hz
    unfold delT at hz
    by_cases e : k = m
    · subst e
      rw [upd_same] at hz
      rcases List.mem_or_eq_of_mem_set (List.mem_of_mem_take hz) with hz | hz
      · exact hk k z hk' hz
      · rw [hz]; exact hk k y hk' (List.mem_of_getElem? hy)
    · rw [upd_other _ e] at hz
      exact hk k z hk' hz
set_option maxRecDepth 100000 in
set_option maxHeartbeats 4000000 in
/-- Remove: what is there is taken out; what is not there changes nothing. -/
theorem remove_yesM (w : World) {base b mb : Nat} {T : Nat → List TB} (h : StoM w base b mb T) (hbase : base ≤ w.heap.size) (hn : (toL T).length < 1000) (x : TB) (hx : x ∈ toL T) :
    Calls Try.prog 36 #[.pointer (some ⟨b, 0, none⟩), .agg #[.int .i64 x.f0.f0, .int .i64 x.f0.f1, .int .i64 x.f0.f2]] w fun e w' => e = .returned (.bool true) ∧ KeepsM mb base w w' ∧ ∃ T', StoM w' base b mb T' ∧ (x :: toL T').Perm (toL T) := by
  have hwf := ((h.sto.mem hx).1).wf
  have HH := Aside0.mk h
  obtain ⟨⟨sv, f, ow, hr, hl⟩, hk⟩ := h
  have hfs : (f x.f0).isSome = true := (hl.isSome x.f0).2 ⟨x, hx, rfl⟩
  have hb1 : Below w.heap.size w (w.alloc (.cells #[.int .i64 x.f0.f0, .int .i64 x.f0.f1, .int .i64 x.f0.f2] 48)) := below_alloc (Below.refl _ _) _
  have hr1 := hr.below hb1
  have hmc := hr1.mcell
  have hmp := Aside0.mk hr1.map
  have HB1 := Aside0.mk hb1
  clear hr hl hk hr1 hb1
  go_enter Try.func36, Try.ntmps36
  go_wp2_with fail
  refine (has_x b mb (toL T).length x.f0 f _ hwf hmc hmp.out).mono ?_
  rintro e w2 ⟨rfl, hb2⟩
  have hB2 := HB1.out.trans (hb2.mono (by simp))
  have bi := (hb2.block w.heap.size (by simp)).trans (heap_alloc_new w _)
  have i0 : w2.cell? ⟨w.heap.size, 0, none⟩ = some (.int .i64 x.f0.f0) := (blk_cell bi 0).trans rfl
  have i1 : w2.cell? ⟨w.heap.size, 1, none⟩ = some (.int .i64 x.f0.f1) := (blk_cell bi 1).trans rfl
  have i2 : w2.cell? ⟨w.heap.size, 2, none⟩ = some (.int .i64 x.f0.f2) := (blk_cell bi 2).trans rfl
  have hcut := cut_stoM w2 (HH.out.below hB2) (Nat.le_trans hbase hB2.size) hn x hx
  have HB2 := Aside0.mk hB2
  clear hb2 hB2 bi hmc
  go_wp2_with fail
  refine hcut.mono ?_
  rintro e w3 ⟨rfl, hK3, T', hS', hp'⟩
  have HK3 := Aside0.mk ((KeepsM.of_below hbase HB2.out).trans hK3 hbase)
  have HS3 := Aside0.mk hS'
  have HP3 := Aside0.mk hp'
  clear hcut i0 i1 i2 hK3 hS' hp'
  go_wp2
  go_ret
  exact ⟨rfl, HK3.out, T', HS3.out, HP3.out⟩
theorem remove_yes (w : World) {base b : Nat} {T : Nat → List TB} (h : Sto w base b T) (hbase : base ≤ w.heap.size) (hn : (toL T).length < 1000) (x : TB) (hx : x ∈ toL T) :
    Calls Try.prog 36 #[.pointer (some ⟨b, 0, none⟩), .agg #[.int .i64 x.f0.f0, .int .i64 x.f0.f1, .int .i64 x.f0.f2]] w fun e w' => e = .returned (.bool true) ∧ Keeps base w w' ∧ ∃ T', Sto w' base b T' ∧ (x :: toL T').Perm (toL T) := by
  obtain ⟨mb, hm⟩ := h.m
  refine (remove_yesM w hm hbase hn x hx).mono ?_
  rintro e w' ⟨rfl, hK, T', hS, hP⟩
  exact ⟨rfl, hK.k, T', hS.sto, hP⟩
set_option maxRecDepth 100000 in
set_option maxHeartbeats 4000000 in
theorem remove_no (w : World) {base b : Nat} {T : Nat → List TB} (h : Sto w base b T) (id : TID) (hwf : wfID id) (hx : ¬ inT T id) :
    Calls Try.prog 36 #[.pointer (some ⟨b, 0, none⟩), .agg #[.int .i64 id.f0, .int .i64 id.f1, .int .i64 id.f2]] w fun e w' => e = .returned (.bool false) ∧ Below w.heap.size w w' := by
  obtain ⟨⟨mb, sv, f, ow, hr, hl⟩, hk⟩ := h
  have hfs : (f id).isSome = false := by
    cases e : (f id).isSome with
    | false => rfl
    | true => exact absurd ((hl.isSome id).1 e) hx
  have hb1 : Below w.heap.size w (w.alloc (.cells #[.int .i64 id.f0, .int .i64 id.f1, .int .i64 id.f2] 48)) := below_alloc (Below.refl _ _) _
  have hr1 := hr.below hb1
  have hmc := hr1.mcell
  have hmp := Aside0.mk hr1.map
  have HB1 := Aside0.mk hb1
  clear hr hl hk hr1 hb1
  go_enter Try.func36, Try.ntmps36
  go_wp2_with fail
  refine (has_x b mb (toL T).length id f _ hwf hmc hmp.out).mono ?_
  rintro e w2 ⟨rfl, hb2⟩
  have HB2 := Aside0.mk (HB1.out.trans (hb2.mono (by simp)))
  clear hb2 hmc
  go_wp2
  go_ret
  exact ⟨rfl, HB2.out⟩
end Go.Proofs.Ythcgiacjmfmamaa.PA
