/-
  Whoever asks for more is told a part; each has a component or has it not; Len.
-/
import Derived.Test.YthcgiacjmfmamaaML
namespace Go.Proofs.Ythcgiacjmfmamaa.PA
set_option linter.unusedVariables false
set_option linter.unusedSimpArgs false
open Go.RowKit Go.Shelf Go.Proofs.YthcgiacjmfmamaaW.PrintWords
theorem and_eq_iff {qa m : Int} (ha : wfI qa) : bits .and .i64 m qa = qa ↔ bv m &&& bv qa = bv qa := by
  rw [and_toInt]
  constructor
  · intro h
    rw [← BitVec.toInt_inj, bv_toInt ha]; exact h
  · intro h
    rw [h, bv_toInt ha]
theorem and_zero_iff (qn m : Int) : bits .and .i64 m qn = 0 ↔ bv m &&& bv qn = 0#64 := by
  rw [and_toInt]
  constructor
  · intro h
    rw [← BitVec.toInt_inj, h]; rfl
  · intro h
    rw [h]; rfl
theorem wfI_or (x y : Int) : wfI (bits .or .i64 x y) := by
  have h1 := BitVec.toInt_lt (x := bv x ||| bv y)
  have h2 := BitVec.le_toInt (x := bv x ||| bv y)
  rw [or_toInt]
  have := wrap64_wf ((bv x ||| bv y).toInt)
  rw [IntWalk.wrap64_in _ (by omega)] at this
  exact this
theorem bv_or (x y : Int) : bv (bits .or .i64 x y) = bv x ||| bv y := by rw [or_toInt, bv_of_toInt]
theorem mt_or {qa ma : Int} (ha : wfI qa) (hm : wfI ma) (qn mn m : Int) : mt (bits .or .i64 qa ma) (bits .or .i64 qn mn) m = (mt qa qn m && mt ma mn m) := by
  have e1 : (bits .and .i64 m (bits .or .i64 qa ma) = bits .or .i64 qa ma) ↔ (bits .and .i64 m qa = qa ∧ bits .and .i64 m ma = ma) := by
    rw [and_eq_iff (wfI_or qa ma), and_eq_iff ha, and_eq_iff hm, bv_or]
    constructor
    · intro h
      constructor
      · ext i hi
        have := congrArg (fun z => z[i]) h
        simp at this ⊢
        intro hq; exact this (.inl hq)
      · ext i hi
        have := congrArg (fun z => z[i]) h
        simp at this ⊢
        intro hq; exact this (.inr hq)
    · rintro ⟨h1, h2⟩
      ext i hi
      have g1 := congrArg (fun z => z[i]) h1
      have g2 := congrArg (fun z => z[i]) h2
      simp at g1 g2 ⊢
      rintro (hq | hq)
      · exact g1 hq
      · exact g2 hq
  have e2 : (bits .and .i64 m (bits .or .i64 qn mn) = 0) ↔ (bits .and .i64 m qn = 0 ∧ bits .and .i64 m mn = 0) := by
    rw [and_zero_iff, and_zero_iff, and_zero_iff, bv_or]
    constructor
    · intro h
      constructor
      · ext i hi
        have := congrArg (fun z => z[i]) h
        simp at this ⊢
        intro hq; exact (this hq).1
      · ext i hi
        have := congrArg (fun z => z[i]) h
        simp at this ⊢
        intro hq; exact (this hq).2
    · rintro ⟨h1, h2⟩
      ext i hi
      have g1 := congrArg (fun z => z[i]) h1
      have g2 := congrArg (fun z => z[i]) h2
      simp at g1 g2 ⊢
      intro hq
      exact ⟨g1 hq, g2 hq⟩
  unfold mt
  rw [Bool.eq_iff_iff]
  simp only [Bool.and_eq_true, decide_eq_true_iff, beq_iff_eq, e1, e2]
  constructor
  · rintro ⟨⟨a, b⟩, c, d⟩; exact ⟨⟨a, c⟩, b, d⟩
  · rintro ⟨⟨a, c⟩, b, d⟩; exact ⟨⟨a, b⟩, c, d⟩
theorem ofI_dist {M : List TB} (h : Dist M) (qa qn : Int) : (ofI qa qn M).Pairwise bID := sortI_sorted (List.Pairwise.filter _ h)
theorem ofI_perm (qa qn : Int) (M : List TB) : (ofI qa qn M).Perm (M.filter fun x => mt qa qn x.f1) := sortI_perm _
/-- Whoever asks for more: those of the former that he asks for too. -/
theorem ofI_more {M : List TB} (hd : Dist M) {qa ma : Int} (ha : wfI qa) (hm : wfI ma) (qn mn : Int) : ofI (bits .or .i64 qa ma) (bits .or .i64 qn mn) M = (ofI qa qn M).filter fun x => mt ma mn x.f1 := by
  refine uniq bID_asym ?_ (ofI_dist hd _ _) (List.Pairwise.filter _ (ofI_dist hd qa qn))
  refine (ofI_perm _ _ M).trans ?_
  refine List.Perm.trans ?_ ((ofI_perm qa qn M).filter _).symm
  rw [List.filter_filter]
  refine List.Perm.of_eq (List.filter_congr fun x _ => ?_)
  rw [mt_or ha hm, Bool.and_comm]
theorem narrows {M : List TB} (hd : Dist M) {qa ma : Int} (ha : wfI qa) (hm : wfI ma) (qn mn : Int) : ((ofI (bits .or .i64 qa ma) (bits .or .i64 qn mn) M).map (·.f0)).Sublist ((ofI qa qn M).map (·.f0)) := by
  rw [ofI_more hd ha hm]
  exact List.Sublist.map _ List.filter_sublist
/-- A name's cells in a row, wherever what lay lies. -/
theorem id_cells {w wr : World} (hb : Below w.heap.size w wr) {A : Option Addr} {l : List TID} (hC : Kd.C k48 w A l.length l) (i : Nat) (h : i < l.length) : ∃ ad, A = some ad ∧ wr.cell? (ad.add (i * 3)) = some (.int .i64 l[i].f0) ∧ wr.cell? ⟨(ad.add (i * 3)).block, (ad.add (i * 3)).off + 1, none⟩ = some (.int .i64 l[i].f1) ∧ wr.cell? ⟨(ad.add (i * 3)).block, (ad.add (i * 3)).off + 2, none⟩ = some (.int .i64 l[i].f2) := by
  obtain ⟨ad, e, x0, x1, x2⟩ := at_T48 hC (i : Int) (by omega) (by omega)
  have hr : rd_T48 l (i : Int) = l[i] := by
    unfold rd_T48
    rw [Int.toNat_natCast, List.getD_eq_getElem?_getD, List.getElem?_eq_getElem h]; rfl
  rw [hr, Int.toNat_natCast] at x0 x1 x2
  exact ⟨ad, e, cell_b hb x0, cell_b hb x1, cell_b hb x2⟩
theorem sub_head {ns ms : List TID} {i k : Nat} (h : (ms.drop i).Sublist (ns.drop k)) (hi : i < ms.length) : k < ns.length := by
  rw [List.drop_eq_getElem_cons hi] at h
  have h1 := h.length_le
  rw [List.length_cons, List.length_drop, List.length_drop] at h1
  omega
theorem sub_ne {a b : TID} {l m : List TID} (h : (a :: l).Sublist (b :: m)) (hne : b ≠ a) : (a :: l).Sublist m := by
  cases h with
  | cons _ h => exact h
  | cons_cons _ h => exact absurd rfl hne
theorem sub_next {ns ms : List TID} {i k : Nat} (h : (ms.drop i).Sublist (ns.drop k)) (hi : i < ms.length) (hk : k < ns.length) (hne : ns[k] ≠ ms[i]) : (ms.drop i).Sublist (ns.drop (k + 1)) := by
  rw [List.drop_eq_getElem_cons hi] at h ⊢
  rw [List.drop_eq_getElem_cons hk] at h
  exact sub_ne h hne
theorem sub_hit {ns ms : List TID} {i k : Nat} (h : (ms.drop i).Sublist (ns.drop k)) (hi : i < ms.length) : (ms.drop (i + 1)).Sublist (ns.drop k) := by
  rw [List.drop_eq_getElem_cons hi] at h
  exact (List.sublist_cons_self _ _).trans h
end Go.Proofs.Ythcgiacjmfmamaa.PA

namespace Go.Proofs.Ythcgiacjmfmamaa.PA
set_option linter.unusedVariables false
set_option linter.unusedSimpArgs false
open Go.RowKit Go.Shelf Go.Proofs.YthcgiacjmfmamaaW.PrintWords
theorem and_none (m : Int) : bits .and .i64 m 0 = 0 := by
  rw [and_zero_iff]
  exact BitVec.and_zero
theorem or_none {x : Int} (h : wfI x) : bits .or .i64 x 0 = x := by
  rw [or_toInt]
  have : bv x ||| bv 0 = bv x := BitVec.or_zero
  rw [this, bv_toInt h]
theorem mt_zero (m : Int) : mt 0 0 m = true := by
  unfold mt
  rw [and_none]
  simp
/-- One component. -/
def oneBit (c : Int) : Prop := c = 1 ∨ c = 2 ∨ c = 4 ∨ c = 8 ∨ c = 16
theorem oneBit.wf {c : Int} (h : oneBit c) : wfI c := by
  unfold oneBit at h
  exact wf_small (by omega) (by omega)
theorem oneBit.two {c : Int} (h : oneBit c) : ∃ j, bv c = BitVec.twoPow 64 j ∧ bv c ≠ 0#64 := by
  unfold oneBit at h
  rcases h with rfl | rfl | rfl | rfl | rfl
  · exact ⟨0, by decide, by decide⟩
  · exact ⟨1, by decide, by decide⟩
  · exact ⟨2, by decide, by decide⟩
  · exact ⟨3, by decide, by decide⟩
  · exact ⟨4, by decide, by decide⟩
theorem has_or_not {c : Int} (h : oneBit c) (m : Int) : (bits .and .i64 m c == 0) = !decide (bits .and .i64 m c = c) := by
  have e1 := and_eq_iff (m := m) h.wf
  have e2 := and_zero_iff c m
  obtain ⟨j, hj, hne⟩ := h.two
  have key : (bv m &&& bv c = bv c) ∨ (bv m &&& bv c = 0#64) := by
    rw [hj, BitVec.and_twoPow]
    split
    · exact .inl rfl
    · exact .inr rfl
  rcases key with k | k
  · have n2 : ¬ bits .and .i64 m c = 0 := fun e => hne (by rw [← k]; exact e2.1 e)
    simp [e1.2 k, n2]
    intro e
    exact n2 (by rw [e1.2 k]; exact e)
  · have n1 : ¬ bits .and .i64 m c = c := fun e => hne (by rw [← e1.1 e]; exact k)
    simp [e2.2 k]
    intro e
    exact n1 (by rw [e2.2 k]; exact e)
theorem count_parts {qa qn c : Int} (ha : wfI qa) (hn : wfI qn) (hc : oneBit c) (M : List TB) : (ofI (bits .or .i64 qa c) qn M).length + (ofI qa (bits .or .i64 qn c) M).length = (ofI qa qn M).length := by
  rw [(ofI_perm _ _ M).length_eq, (ofI_perm _ _ M).length_eq, (ofI_perm _ _ M).length_eq]
  have e1 : ∀ m, mt (bits .or .i64 qa c) qn m = (mt qa qn m && decide (bits .and .i64 m c = c)) := fun m => by
    have := mt_or ha hc.wf qn 0 m
    rw [or_none hn] at this
    rw [this]
    congr 1
    unfold mt
    rw [and_none]; simp
  have e2 : ∀ m, mt qa (bits .or .i64 qn c) m = (mt qa qn m && !decide (bits .and .i64 m c = c)) := fun m => by
    have := mt_or ha (wf_small (n := 0) (by omega) (by omega)) qn c m
    rw [or_none ha] at this
    rw [this]
    congr 1
    unfold mt
    rw [and_none, has_or_not hc]; simp
  simp only [e1, e2]
  clear e1 e2
  induction M with
  | nil => rfl
  | cons x M ih =>
    rw [List.filter_cons, List.filter_cons, List.filter_cons]
    cases mt qa qn x.f1 <;> cases decide (bits .and .i64 x.f1 c = c) <;> simp at ih ⊢ <;> omega
theorem count_all (M : List TB) : (ofI 0 0 M).length = M.length := by
  rw [(ofI_perm _ _ M).length_eq]
  congr 1
  refine List.filter_eq_self.2 fun x _ => mt_zero _
set_option maxRecDepth 100000 in
theorem len_x (w : World) {base b : Nat} {T : Nat → List TB} (h : Sto w base b T) : Calls Try.prog 30 #[.pointer (some ⟨b, 0, none⟩)] w fun e w' => e = .returned (.int .i64 (toL T).length) ∧ Below w.heap.size w w' := by
  obtain ⟨⟨mb, sv, f, ow, hR, hl⟩, hk⟩ := h
  have hmc := hR.mcell
  have hmp := fun ty => hR.map.len ty
  clear hR hl hk
  go_enter Try.func30, Try.ntmps30
  go_wp2
  go_ret
  exact ⟨rfl, Below.refl _ _⟩
theorem law_len (w : World) {b : Nat} {A : Option Addr} {c : Nat} {L M : List TB} (h : Mst w b A c L M) {n : Nat} (hn : n = M.length) : Calls Try.prog 30 #[.pointer (some ⟨b, 0, none⟩)] w fun e w' => e = .returned (.int .i64 n) ∧ Below w.heap.size w w' := by
  obtain ⟨base, hh⟩ := h.holds
  rcases hh with ⟨e, _⟩ | ⟨b', T, e, hS, hL⟩
  · cases e
  · have hb : b = b' := by injection e with e; injection e
    rw [hb]
    have := len_x w hS
    rw [← hL, h.perm.length_eq, ← hn] at this
    exact this
end Go.Proofs.Ythcgiacjmfmamaa.PA
