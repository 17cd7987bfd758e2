/-
  query.found, IDs, Count, Within, Near; the laws' helper made; what is told in order is told in one way.
-/
import Derived.Test.YthcgiacjmfmamaaMB
import Derived.Test.YthcgiacjmfmamaaMT
import Derived.Test.YthcgiacjmfmamaaV3
import Derived.Maps.AppendAt
import Derived.Test.YthcgiacjmfmamaaV11
import Derived.Test.YthcgiacjmfmamaaV9
import Derived.Deep.RegionHeld3
import Derived.Laws.EntriesVeiled
namespace Go.Proofs.Ythcgiacjmfmamaa.PA
set_option linter.unusedVariables false
set_option linter.unusedSimpArgs false
open Go.RowKit Go.Shelf Go.Proofs.YthcgiacjmfmamaaW.PrintWords
attribute [local go_sem] Oper.semAt_some
/-- A block of cells that lies as it lay. -/
theorem block_own {β : Type} (B : Nat) (cs : Array Value) (t : TypeId) : Own (fun (_ : β) W => W.heap[B]? = some (.cells cs t (0, 0))) := fun s X Y row hs hg hrow =>
  (hg.block B (Array.getElem?_eq_some_iff.1 hs).1 (fun e => by obtain ⟨o, ho, hc⟩ := hrow B e.symm; rw [hs] at ho; cases ho; cases hc)).trans hs
/-- Those for which q asks and h holds. -/
def fnd (qa qn : Int) (hb : TB → Bool) (L : List TB) : List TB := L.filter fun x => (decide (bits .and .i64 x.f1 qa = qa) && (bits .and .i64 x.f1 qn == 0)) && hb x
/-- What found's own cells hold between two rounds, pre having come. -/
def IF (w : World) (s : Nat) (qa qn : Int) (fv sp : Value) (hb : TB → Bool) (pre : List TB) (W : World) : Prop :=
  (((((∃ v, Boxed W (s + 2) 29 v ∧ W.ownsRow s 51 11 v (fnd qa qn hb pre).length (bunCells (fnd qa qn hb pre)) ∧ (v = .slice none 0 0 ↔ fnd qa qn hb pre = [])) ∧ W.heap[s]? = some (.cells #[.int .i64 qa, .int .i64 qn] 23 (0, 0))) ∧ Boxed W (s + 1) 74 fv) ∧ Boxed W (s + 3) 32 sp) ∧ Below s w W) ∧ s + 4 ≤ W.heap.size
theorem IF_own (w : World) (s B : Nat) (qa qn : Int) (fv sp : Value) (hb : TB → Bool) (h1 : s ≤ w.heap.size) (h2 : s ≤ B) : OwnFrom B (IF w s qa qn fv sp hb) :=
  OwnFrom.and (OwnFrom.and (OwnFrom.and (OwnFrom.and (OwnFrom.and (Own.from (holdsRow_own s (s + 2) 29 51 11 (fun pre => (fnd qa qn hb pre).length) (fun pre => bunCells (fnd qa qn hb pre)) (fun pre v => v = .slice none 0 0 ↔ fnd qa qn hb pre = [])) _) (Own.from (block_own s _ _) _)) (Own.from (boxed_own (s + 1) 74 (fun _ => fv)) _)) (Own.from (boxed_own (s + 3) 32 (fun _ => sp)) _)) (ownFrom_below h1 h2)) (fun _ _ _ _ hs hg _ => Nat.le_trans hs hg.size)
theorem match_f (qa qn m : Int) : query_Match.f qa qn m = some (decide (bits .and .i64 m qa = qa) && (bits .and .i64 m qn == 0)) := by
  unfold query_Match.f
  by_cases h : bits .and .i64 m qa = qa
  · rw [if_pos h]; simp [h]
  · rw [if_neg h]; simp [h]
theorem ARow.mono {w : World} {base base' : Nat} {v : Value} {L : List TB} (h : ARow w base v L) (hb : base' ≤ base) : ARow w base' v L := by
  rcases h with h | ⟨g, cap, h0, h1, h2, h3, h4⟩
  · exact .inl h
  · exact .inr ⟨g, cap, h0, h1, Nat.le_trans hb h2, h3, h4⟩
theorem ARow.putObj {w : World} {base : Nat} {v : Value} {L : List TB} (h : ARow w base v L) {l : Nat} {o : Obj} (o' : Obj) (hl : w.heap[l]? = some o) (ho : o.isCells = false) : ARow (w.putObj l o') base v L := by
  rcases h with h | ⟨g, cap, h0, h1, h2, h3, h4⟩
  · exact .inl h
  · refine .inr ⟨g, cap, h0, h1, h2, h3, h4.kept ?_⟩
    refine World.putObj_heap_other (fun e => ?_)
    obtain ⟨cur, hc, _⟩ := h4
    rw [e] at hc
    rw [hl] at hc
    cases hc
    cases ho
theorem new_cells (w : World) (cs : Array Value) (t : Nat) (j : Nat) (u : Value) (h : cs.toList[j]? = some u) : (w.alloc (.cells cs t)).cell? ((⟨w.heap.size, 0, none⟩ : Addr).add j) = some u := by
  have h1 := (blk_cell (heap_alloc_new w (.cells cs t)) j).trans (by simpa using h : cs[j]? = some u)
  by_cases hj0 : j = 0
  · subst hj0; simpa [Addr.add] using h1
  · simpa [Addr.add, hj0] using h1
theorem below_frame {w W : World} (W1 : World) (hb1 : Below W.heap.size W W1) {s n4 : Nat} {qa qn : Int} {v fv sp : Value} {L : List TB} (hBw : Below w.heap.size w W) (hs : s ≤ w.heap.size) (hv : Boxed W (s + 2) 29 v) (hrow : W.ownsRow s 51 11 v L.length (bunCells L)) (hnil : v = .slice none 0 0 ↔ L = []) (hQ : W.heap[s]? = some (.cells #[.int .i64 qa, .int .i64 qn] 23 (0, 0))) (hH : Boxed W (s + 1) 74 fv) (hP : Boxed W (s + 3) 32 sp) (hB : Below s w W) (h4 : s + 4 ≤ W.heap.size) :
    ((((((∃ v, Boxed W1 (s + 2) 29 v ∧ W1.ownsRow s 51 11 v L.length (bunCells L) ∧ (v = .slice none 0 0 ↔ L = [])) ∧ W1.heap[s]? = some (.cells #[.int .i64 qa, .int .i64 qn] 23 (0, 0))) ∧ Boxed W1 (s + 1) 74 fv) ∧ Boxed W1 (s + 3) 32 sp) ∧ Below s w W1) ∧ s + 4 ≤ W1.heap.size) ∧ KeepsFrom n4 W W1 ∧ KpA w.heap.size (s + 3) W W1 := by
  have hg := grown_below hb1
  exact ⟨⟨⟨⟨⟨⟨⟨v, hv.kept hg (by simp), own_grown hrow hg (fun _ _ => by simp), hnil⟩, (hb1.block _ (by omega)).trans hQ⟩, hH.kept hg (by simp)⟩, hP.kept hg (by simp)⟩, hB.trans (hb1.mono (by omega))⟩, Nat.le_trans h4 hb1.size⟩,
    (KeepsOthers.of_grownBy hg (fun j o ej _ => by cases ej)).from _, hb1.mono hBw.size, hb1.block _ (by omega)⟩
set_option maxRecDepth 100000 in
set_option maxHeartbeats 4000000 in
/-- found, wherever holds (a function value that has captured lb) answers hb, and keeps whatever lay. -/
theorem found_gen (F : Fence) (hF : F = Fence.wide) (n : Nat) (hn : 3 ≤ n) (w : World) (p : Option Addr) (L : List TB) (Sp : List TB → Prop) (hlen : L.length < 1000)
    (hst : ∀ w4 : World, Below w.heap.size w w4 → w.heap.size + 3 < w4.heap.size → w4.cell? ⟨w.heap.size + 3, 0, none⟩ = some (.pointer p) → SeqStopsK F (n - 1) Try.prog 71 #[.pointer (some ⟨w.heap.size + 3, 0, none⟩)] encB (KpA w.heap.size (w.heap.size + 3)) (fun ys => ys = L) Sp L.length w4) (qa qn : Int) (g : FuncId) (lb : Array Value) (hb : TB → Bool)
    (eg : ∀ args w, (callFunc g args).run Try.prog w = .ok (.enter g args) w)
    (hh : ∀ (x : TB) (W : World), Below w.heap.size w W → Calls Try.prog g (encB x ++ lb) W fun e W' => e = .returned (.bool (hb x)) ∧ Below W.heap.size W W') :
    CallsIn F n Try.prog 39 #[.pointer p, .agg #[.int .i64 qa, .int .i64 qn], .func (.func g) #[] lb] w fun e w' => ∃ v L', e = .returned v ∧ Below w.heap.size w w' ∧ ARow w' w.heap.size v L' ∧ Told (fun x y => cmpID x.f0 y.f0) (fnd qa qn hb (L)) L' := by
  have HST := Aside0.mk hst
  clear hst
  have h1 : 1 ≤ n := by omega
  have hro : F.round = none := by rw [hF]; rfl
  have hf1 : F.fn 39 := by rw [hF]; trivial
  have hf2 : F.fn 59 := by rw [hF]; trivial
  have hf3 : F.fn 71 := by rw [hF]; trivial
  have hf4 : F.fn 13 := by rw [hF]; trivial
  have hf5 : F.fn g := by rw [hF]; trivial
  have hf6 : F.fn 60 := by rw [hF]; trivial
  have HF := Aside0.mk hF
  clear hF
  obtain ⟨i0, hi, hz0, hz1, hz2⟩ := info_parts info51
  refine callsIn_of_wp_marks Try.func39 rfl hf1 ?_ hro
  simp only [Try.ntmps39, List.size_toArray, List.length_cons, List.length_nil, Nat.reduceAdd, Nat.reduceSub, Array.replicate_succ, Array.replicate_zero, List.push_toArray, List.append_toArray, List.nil_append, List.cons_append]
  gi_wp2_with (gi_at_call 59; refine (all_in F HF.out (n - 1) _ _).mono ?_; rintro e w' ⟨rfl, rfl⟩)
  obtain ⟨s, hs⟩ : ∃ s, s = w.heap.size := ⟨_, rfl⟩
  obtain ⟨w4, hw4⟩ : ∃ w4, w4 = ((((w.alloc (Obj.cells #[Value.int IntKind.i64 qa, Value.int IntKind.i64 qn] 23)).alloc (Obj.cells #[Value.func (Fn.func g) #[] lb] 74)).alloc (Obj.cells #[Value.slice none 0 0] 29)).alloc (Obj.cells #[Value.pointer p] 32)) := ⟨_, rfl⟩
  have hB4 : Below s w w4 := by rw [hs, hw4]; repeat (first | exact Below.refl _ _ | apply below_alloc | apply below_drew)
  have bQ : w4.heap[s]? = some (.cells #[.int .i64 qa, .int .i64 qn] 23 (0, 0)) := by rw [hw4, heap_old _ _ _ (by simp; omega), heap_old _ _ _ (by simp; omega), heap_old _ _ _ (by simp; omega), hs]; exact heap_alloc_new _ _
  have bH : Boxed w4 (s + 1) 74 (.func (.func g) #[] lb) := by
    unfold Boxed
    rw [hw4, heap_old _ _ _ (by simp; omega), heap_old _ _ _ (by simp; omega)]
    have := heap_alloc_new (w.alloc (Obj.cells #[Value.int IntKind.i64 qa, Value.int IntKind.i64 qn] 23)) (Obj.cells #[Value.func (Fn.func g) #[] lb] 74)
    rw [World.size_alloc, ← hs] at this; exact this
  have bL : Boxed w4 (s + 2) 29 (.slice none 0 0) := by
    unfold Boxed
    rw [hw4, heap_old _ _ _ (by simp; omega)]
    have := heap_alloc_new ((w.alloc (Obj.cells #[Value.int IntKind.i64 qa, Value.int IntKind.i64 qn] 23)).alloc (Obj.cells #[Value.func (Fn.func g) #[] lb] 74)) (Obj.cells #[Value.slice none 0 0] 29)
    rw [World.size_alloc, World.size_alloc, ← hs] at this; exact this
  have bS : Boxed w4 (s + 3) 32 (.pointer p) := by
    unfold Boxed
    rw [hw4]
    have := heap_alloc_new (((w.alloc (Obj.cells #[Value.int IntKind.i64 qa, Value.int IntKind.i64 qn] 23)).alloc (Obj.cells #[Value.func (Fn.func g) #[] lb] 74)).alloc (Obj.cells #[Value.slice none 0 0] 29)) (Obj.cells #[Value.pointer p] 32)
    rw [World.size_alloc, World.size_alloc, World.size_alloc, ← hs] at this; exact this
  have hz4 : w4.heap.size = s + 4 := by rw [hw4, hs]; simp
  rw [← hw4]
  rw [show w.heap.size + 1 + 1 + 1 = s + 3 by omega, show w.heap.size + 1 + 1 = s + 2 by omega, show w.heap.size + 1 = s + 1 by omega, ← hs]
  have HB4 := hB4
  rw [hs] at hB4
  have HSQ : Aside0 (SeqStopsK F (n - 1) Try.prog 71 #[.pointer (some ⟨s + 3, 0, none⟩)] encB (KpA w.heap.size (s + 3)) (fun ys => ys = L) Sp L.length w4) := by
    refine Aside0.mk ?_
    have hq := HST.out w4 hB4 (by omega) (by rw [← hs]; exact bS.cell)
    rw [hs]; exact hq
  refine wpIn_rangeFunc_ownH hro h1 (gf := 71) (lb := #[.pointer (some ⟨s + 3, 0, none⟩)]) rfl hf3 (enters_of Try.func71 (by kernel_rfl) rfl)
    HSQ.out KpA.trans
    (fun W l o o' hl ho hc hw => ⟨belowK_b (w := w4) (by omega) W l o o' hl ho hc hw, World.putObj_heap_other (by omega)⟩) (Below.refl _ _) (fun _ => rfl)
    (IF w s qa qn (.func (.func g) #[] lb) (.pointer p) hb) (fun _ _ _ => False) (IF_own w s w4.heap.size qa qn _ _ hb (by omega) (by omega)) (fun _ _ _ _ _ hs _ _ => hs)
    ⟨⟨⟨⟨⟨⟨_, bL, World.ownsRow_nil _ _ _ _, by simp [fnd]⟩, bQ⟩, bH⟩, bS⟩, HB4⟩, by omega⟩
    (fun x a' W => ∃ Bx, s + 4 ≤ Bx ∧ W.heap[Bx]? = some (.cells (cellsB x) 51 (0, 0)) ∧ a' = { tmps := #[.pointer p, .agg #[.int .i64 qa, .int .i64 qn], .func (.func g) #[] lb, undef, .pointer (some ⟨s, 0, none⟩), .pointer (some ⟨s + 1, 0, none⟩), .slice none 0 0, .pointer (some ⟨s + 2, 0, none⟩), .pointer (some ⟨Bx, 0, none⟩), .pointer p, .func (.func 71) #[] #[.pointer (some ⟨s + 3, 0, none⟩)], bunV x, undef, undef, undef, undef, undef, undef, undef, undef, undef, undef, undef, undef, undef, undef, undef], defers := [] })
    ?hAx ?assign ?body ?done ?stop
  case hAx =>
    rintro x a' u W W' row ⟨Bx, g1, g2, g3⟩ hg hr
    exact ⟨Bx, g1, (Own.from (block_own (β := Unit) Bx (cellsB x) 51) _) u W W' row g2 hg hr, g3⟩
  case assign =>
    rintro l pre x W K hi' hK
    have HS := Aside0.mk hs
    have HW4 := Aside0.mk hw4
    clear hs hw4
    unfold encB
    gi_wp2
    have h4 := hi'.2
    exact hK _ _ ((KeepsOthers.alloc _ _).from _) ⟨(Below.refl _ W).alloc (by have := HS.out; omega) _, heap_old _ _ _ (by omega)⟩ (OwnFrom.alloc (IF_own w s W.heap.size qa qn _ _ hb (by have := HS.out; omega) (by omega)) _ hi') ⟨W.heap.size, h4, heap_alloc_new W _, rfl⟩
  case body =>
    rintro l pre x a' W hl hr ⟨⟨⟨⟨⟨⟨v, hv, hrow, hnil⟩, hQ⟩, hH⟩, hP⟩, hB⟩, h4⟩ ⟨Bx, hBx, hbx, rfl⟩ hlt
    have HS := Aside0.mk hs
    have HW4 := Aside0.mk hw4
    have HZ4 := Aside0.mk hz4
    clear hs hw4 bQ bH bL bS hB4 HB4 hr hz4
    have hbx' : W.heap[Bx]? = some (.cells #[.int .i64 x.f0.f0, .int .i64 x.f0.f1, .int .i64 x.f0.f2, .int .i64 x.f1, .int .i64 x.f2, .int .i64 x.f3, .int .i64 x.f4, .int .i64 x.f5, .int .i64 x.f6, .int .i64 x.f7, .int .i64 x.f8] 51 (0, 0)) := hbx
    obtain ⟨x0, x1, x2, x3, x4, x5, x6, x7, x8, x9, x10⟩ := box11 hbx'
    have q0 : W.cell? ⟨s, 0, none⟩ = some (.int .i64 qa) := (blk_cell hQ 0).trans rfl
    have q1 : W.cell? ⟨s, 1, none⟩ = some (.int .i64 qn) := (blk_cell hQ 1).trans rfl
    have cH := hH.cell
    have cv := hv.cell
    have hd1 : 1 ≤ n - 1 - 1 := by omega
    have hBw : Below w.heap.size w W := HS.out ▸ hB
    have hxm : ∀ W1 : World, Below W.heap.size W W1 → fnd qa qn hb (pre ++ [x]) = fnd qa qn hb pre → IF w s qa qn (.func (.func g) #[] lb) (.pointer p) hb (pre ++ [x]) W1 ∧ KeepsFrom w4.heap.size W W1 ∧ KpA w.heap.size (s + 3) W W1 := fun W1 hb1 e => by
      have hf := below_frame (n4 := w4.heap.size) W1 hb1 hBw (by have := HS.out; omega) hv hrow hnil hQ hH hP hB h4
      unfold IF
      rw [e]
      exact hf
    clear hnil
    cases hm : (decide (bits .and .i64 x.f1 qa = qa) && (bits .and .i64 x.f1 qn == 0)) with
    | true =>
      have hmf := match_f qa qn x.f1
      rw [hm] at hmf
      have HM := Aside0.mk hm
      clear hm
      cases hbb : hb x with
      | true =>
        have HBB := Aside0.mk hbb
        clear hbb
        gi_wp2_with ((with_reducible refine (CallsIn.inRound l (wide_calls HF.out (query_Match.calls qa qn x.f1 true _ hmf))).mono ?_); rintro e W1 ⟨rfl, hb1⟩; have cH1 := (hH.kept (grown_below hb1) (by simp)).cell; clear x0 x1 x2 x3 x4 x5 x6 x7 x8 x9 x10; obtain ⟨x0, x1, x2, x3, x4, x5, x6, x7, x8, x9, x10⟩ := box11 ((hb1.block _ (blk_lt hbx')).trans hbx'); have hB1 := hBw.trans (hb1.mono hBw.size); have hcall := hh x W1 hB1; rw [HBB.out] at hcall; unfold encB at hcall)
        refine (CallsIn.inRound l (wide_calls HF.out hcall)).mono ?_
        rintro e W2 ⟨rfl, hb2⟩
        have hb12 : Below W.heap.size W W2 := hb1.trans (hb2.mono hb1.size)
        clear x0 x1 x2 x3 x4 x5 x6 x7 x8 x9 x10 q0 q1 cH cv cH1 hcall
        have HXM := Aside0.mk hxm
        clear hxm
        obtain ⟨x0, x1, x2, x3, x4, x5, x6, x7, x8, x9, x10⟩ := box11 ((hb12.block _ (blk_lt hbx')).trans hbx')
        have hv2 := hv.kept (grown_below hb12) (by simp)
        have hrow2 := own_grown hrow (grown_below hb12) (fun _ _ => by simp)
        have cv := hv2.cell
        have hpl : (fnd qa qn hb pre).length ≤ pre.length := List.length_filter_le _ _
        have hs2 : s ≤ W2.heap.size := by have := hb12.size; omega
        gi_wp2_with (gi_at_builtin; go_loud (refine wpListIn_append_own _ rfl _ _ 29 rfl s 51 i0 _ 11 88 Try.underlying29 hi hz0 hz1 hz2 rfl (by decide) _ _ _ rfl (hrow2.alloc _) ⟨W2.heap.size, 0, none⟩ 1 1 (bunCells [x]) rfl (bunCells_length [x]) (new_cells _ (cellsB x) _) (bunCells_one [x]) (by unfold maxLen; omega) (by omega) (by simp; omega) ?_; intro v' w1 hown' hgrow _; obtain ⟨g', cap', rfl⟩ := ownsRow_succ hown'; obtain ⟨hv1, hv3, hr2, hk2, hb3⟩ := hv2.appended (by decide) hrow2 hs2 (by omega) hown' hgrow; have hc1 := hv1.cell; have hf1 := hv1.frozen))
        have e1 : fnd qa qn hb (pre ++ [x]) = fnd qa qn hb pre ++ [x] := by unfold fnd; rw [List.filter_append]; simp [HM.out, HBB.out]
        have hg2 := grown_below hb12
        have hgb : ∀ k, k < W2.heap.size → some k ≠ v.ownBlock → k ≠ s + 2 → (w1.setCell ⟨s + 2, 0, none⟩ (.slice (some ⟨g', 0, none⟩) ((fnd qa qn hb pre).length + 1) cap')).heap[k]? = W2.heap[k]? := fun k hk hne hne2 =>
          ((Below.heap_setCell _ _ _ k (fun e => hne2 e)).trans (hgrow.block k (by simp; omega) hne)).trans (heap_old _ _ _ hk)
        have hQ2 := (hb12.block s (by omega)).trans hQ
        have hH2 := hH.kept hg2 (by simp)
        have hP2 := hP.kept hg2 (by simp)
        have hQn : some s ≠ v.ownBlock := by
          rcases hrow2.2 with ⟨e, _⟩ | ⟨gg, cp, cur, e, _, hgb2, _⟩
          · rw [e]; simp [Value.ownBlock]
          · rw [e]
            intro e'
            obtain rfl : s = gg := by simpa [Value.ownBlock] using e'
            rw [hgb2] at hQ2; simp at hQ2
        refine ⟨((KeepsOthers.of_grownBy hg2 (fun j o ej _ => by cases ej)).trans hk2).from _, ⟨(hb12.mono hBw.size).trans (HS.out ▸ hb3), ?_⟩, ?_⟩
        · exact (hgb _ hP2.lt (hP2.not_row (by decide) hrow2) (by omega)).trans (hb12.block _ (by omega))
        · unfold IF
          rw [e1, List.length_append, bunCells_append]
          refine ⟨⟨⟨⟨⟨⟨_, hv3, hr2, by simp⟩, ?_⟩, ?_⟩, ?_⟩, ?_⟩, ?_⟩
          · exact (hgb _ (by have := hb12.size; omega) hQn (by omega)).trans hQ2
          · exact (hgb _ hH2.lt (hH2.not_row (by decide) hrow2) (by omega)).trans hH2
          · exact (hgb _ hP2.lt (hP2.not_row (by decide) hrow2) (by omega)).trans hP2
          · exact (hB.trans (hb12.mono (by omega))).trans hb3
          · exact Nat.le_trans h4 (Nat.le_trans hb12.size hb3.size)
      | false =>
        have HBB := Aside0.mk hbb
        clear hbb
        gi_wp2_with ((with_reducible refine (CallsIn.inRound l (wide_calls HF.out (query_Match.calls qa qn x.f1 true _ hmf))).mono ?_); rintro e W1 ⟨rfl, hb1⟩; have cH1 := (hH.kept (grown_below hb1) (by simp)).cell; clear x0 x1 x2 x3 x4 x5 x6 x7 x8 x9 x10; obtain ⟨x0, x1, x2, x3, x4, x5, x6, x7, x8, x9, x10⟩ := box11 ((hb1.block _ (blk_lt hbx')).trans hbx'); have hB1 := hBw.trans (hb1.mono hBw.size); have hcall := hh x W1 hB1; rw [HBB.out] at hcall; unfold encB at hcall)
        refine (CallsIn.inRound l (wide_calls HF.out hcall)).mono ?_
        rintro e W2 ⟨rfl, hb2⟩
        have hb12 : Below W.heap.size W W2 := hb1.trans (hb2.mono hb1.size)
        clear x0 x1 x2 x3 x4 x5 x6 x7 x8 x9 x10 q0 q1 cH cv cH1 hcall
        have HXM := Aside0.mk hxm
        clear hxm
        gi_wp2
        obtain ⟨r1, r2, r3⟩ := HXM.out W2 hb12 (by unfold fnd; rw [List.filter_append]; simp [HBB.out])
        exact ⟨r2, r3, r1⟩
    | false =>
      have hmf := match_f qa qn x.f1
      rw [hm] at hmf
      have HM := Aside0.mk hm
      clear hm
      gi_wp2_with ((with_reducible refine (CallsIn.inRound l (wide_calls HF.out (query_Match.calls qa qn x.f1 false _ hmf))).mono ?_); rintro e W1 ⟨rfl, hb1⟩)
      refine ⟨fun f h => (by cases h), ?_⟩
      gi_wp2
      obtain ⟨r1, r2, r3⟩ := hxm W1 hb1 (by unfold fnd; rw [List.filter_append]; simp [HM.out])
      exact ⟨r2, r3, r1⟩
  case done =>
    rintro D ys W hD hys hI hK
    have hys' := hys.symm
    clear hys
    subst hys'
    obtain ⟨⟨⟨⟨⟨⟨v, hv, hrow, hnil⟩, hQ⟩, hH⟩, hP⟩, hB⟩, h4⟩ := hI
    have HS := Aside0.mk hs
    have HW4 := Aside0.mk hw4
    have HZ4 := Aside0.mk hz4
    clear hs hw4 bQ bH bL bS hB4 HB4 hz4
    have cv := hv.cell
    have hll : (fnd qa qn hb (L)).length ≤ (L).length := List.length_filter_le _ _
    have hso := sorted_x W s v _ (ARow.of_own hrow hnil.2) (by omega)
    gi_wp2_with (gi_at_call 60; refine (wide_calls HF.out hso).mono ?_; rintro e W2 ⟨v', L', rfl, hb2, hA2, hT2⟩)
    have hK2 := (hb2.block D (blk_lt hK)).trans hK
    refine ⟨by simp, .inl ⟨_, _, rfl, run_takeDeferred hK2, ?_⟩⟩
    refine ⟨_, results_tmp rfl _ _ _, v', L', rfl, ?_, ?_, hT2⟩
    · have hBw : Below w.heap.size w W := HS.out ▸ hB
      have hb3 := hBw.trans (hb2.mono hBw.size)
      exact hb3.trans (belowK_b (w := w) (Nat.le_refl _) W2 D _ _ (by have := HZ4.out; have := HS.out; omega) hK2 rfl rfl)
    · exact (hA2.mono (by have := hB.size; have := HS.out; omega)).putObj _ hK2 rfl
  case stop =>
    intro D c pre W _ _ h _
    exact h.elim
theorem found_in (F : Fence) (hF : F = Fence.wide) (n : Nat) (hn : 3 ≤ n) (w : World) (base b : Nat) (T : Nat → List TB) (h : Sto w base b T) (hlen : (toL T).length < 1000) (qa qn : Int) (g : FuncId) (lb : Array Value) (hb : TB → Bool)
    (eg : ∀ args w, (callFunc g args).run Try.prog w = .ok (.enter g args) w)
    (hh : ∀ (x : TB) (W : World), Below w.heap.size w W → Calls Try.prog g (encB x ++ lb) W fun e W' => e = .returned (.bool (hb x)) ∧ Below W.heap.size W W') :
    CallsIn F n Try.prog 39 #[.pointer (some ⟨b, 0, none⟩), .agg #[.int .i64 qa, .int .i64 qn], .func (.func g) #[] lb] w fun e w' => ∃ v L', e = .returned v ∧ Below w.heap.size w w' ∧ ARow w' w.heap.size v L' ∧ Told (fun x y => cmpID x.f0 y.f0) (fnd qa qn hb (toL T)) L' :=
  found_gen F hF n hn w _ _ _ hlen (fun w4 hb4 hs4 hc4 => all_stops F hF (n - 1) (by omega) (w.heap.size + 3) base b w T h hlen w4 hb4 hs4 hc4) qa qn g lb hb eg hh
theorem found_nil (F : Fence) (hF : F = Fence.wide) (n : Nat) (hn : 3 ≤ n) (w : World) (qa qn : Int) (g : FuncId) (lb : Array Value) (hb : TB → Bool)
    (eg : ∀ args w, (callFunc g args).run Try.prog w = .ok (.enter g args) w)
    (hh : ∀ (x : TB) (W : World), Below w.heap.size w W → Calls Try.prog g (encB x ++ lb) W fun e W' => e = .returned (.bool (hb x)) ∧ Below W.heap.size W W') :
    CallsIn F n Try.prog 39 #[.pointer none, .agg #[.int .i64 qa, .int .i64 qn], .func (.func g) #[] lb] w fun e w' => ∃ v L', e = .returned v ∧ Below w.heap.size w w' ∧ ARow w' w.heap.size v L' ∧ Told (fun x y => cmpID x.f0 y.f0) (fnd qa qn hb []) L' :=
  found_gen F hF n hn w _ _ _ (by decide) (fun w4 hb4 hs4 hc4 => all_nil_stops F hF (n - 1) (w.heap.size + 3) w.heap.size w4 hs4 hc4) qa qn g lb hb eg hh
end Go.Proofs.Ythcgiacjmfmamaa.PA

namespace Go.Proofs.Ythcgiacjmfmamaa.PA
set_option linter.unusedVariables false
set_option linter.unusedSimpArgs false
open Go.RowKit Go.Shelf Go.Proofs.YthcgiacjmfmamaaW.PrintWords
/-- A row of bundles as the printed functions read it. -/
theorem ARow.reads {w : World} {base : Nat} {v : Value} {L : List TB} (h : ARow w base v L) (hL : L.length < 1000000) : ∃ A c, v = .slice A L.length c ∧ L.length ≤ c ∧ Kd.C k51 w A L.length L := by
  rcases h with ⟨rfl, rfl⟩ | ⟨g, cap, h0, rfl, h2, h3, h4⟩
  · exact ⟨none, 0, rfl, Nat.le_refl _, Kd.C_nil _ _⟩
  · refine ⟨_, _, rfl, h3, rfl, by omega, fun _ => ⟨⟨g, 0, none⟩, rfl, fun j p hj => ⟨_, ?_, k51_mk w p, fun i u hu => ?_⟩⟩⟩
    · rfl
    · have hj1 := (List.getElem?_eq_some_iff.1 hj).1
      have hi : i < 11 := (List.getElem?_eq_some_iff.1 hu).1
      have hp : L.getD j z0 = p := by rw [List.getD_eq_getElem?_getD, hj]; rfl
      refine arr_cells h4 (j * 11 + i) u ?_
      rw [bunCells_at L j i hj1 hi, hp]
      match i, hi with
      | 0, _ => exact hu
      | 1, _ => exact hu
      | 2, _ => exact hu
      | 3, _ => exact hu
      | 4, _ => exact hu
      | 5, _ => exact hu
      | 6, _ => exact hu
      | 7, _ => exact hu
      | 8, _ => exact hu
      | 9, _ => exact hu
      | 10, _ => exact hu
theorem names_l0 (L : List TB) (hL : L.length < 1000000) : ∀ (d i k : Nat) (acc : List TID), i + d = L.length → d < k → acc.length = i → query_names.l0 k acc L (L.length : Int) (i : Int) = some (acc ++ (L.drop i).map (·.f0)) := by
  intro d
  induction d with
  | zero =>
    intro i k acc hi hk ha
    obtain ⟨k, rfl⟩ : ∃ G, k = G + 1 := ⟨k - 1, by omega⟩
    rw [query_names.l0, if_neg (by omega), List.drop_eq_nil_of_le (by omega)]
    simp
  | succ d ih =>
    intro i k acc hi hk ha
    obtain ⟨k, rfl⟩ : ∃ G, k = G + 1 := ⟨k - 1, by omega⟩
    rw [query_names.l0, if_pos (by omega), if_pos (by omega), if_pos (by omega), if_pos (by omega), IntWalk.wrap64_in _ (by omega), show (i : Int) + 1 = ((i + 1 : Nat) : Int) by omega, ih (i + 1) k _ (by omega) (by omega) (by simp [ha])]
    have hr : rd_T51 L (i : Int) = L[i] := by
      unfold rd_T51
      rw [Int.toNat_natCast, List.getD_eq_getElem?_getD, List.getElem?_eq_getElem (by omega)]; rfl
    rw [hr, List.drop_eq_getElem_cons (i := i) (by omega), List.map_cons, List.append_assoc]
    rfl
theorem names_f (L : List TB) (hL : L.length < 1000000) : query_names.f (L.length + 1) L = some (L.map (·.f0)) := by
  unfold query_names.f
  have := names_l0 L hL L.length 0 (L.length + 1) [] (by omega) (by omega) rfl
  simpa using this
/-- A row of names of the call's own. -/
abbrev IRow (w : World) (base : Nat) (v : Value) (l : List TID) : Prop := Kd.R k48 48 w base (fun _ => True) v l
theorem names_x (w : World) (base : Nat) (v : Value) (L : List TB) (h : ARow w base v L) (hL : L.length < 1000000) :
    Calls Try.prog 38 #[v] w fun e w' => ∃ v', e = .returned v' ∧ IRow w' w.heap.size v' (L.map (·.f0)) ∧ Below w.heap.size w w' := by
  obtain ⟨A, c, rfl, hc, hC⟩ := h.reads hL
  exact query_names.calls _ A c L _ w hC hc (names_f L hL)
theorem always_ok (x : TB) (W : World) : Calls Try.prog 49 (encB x ++ #[]) W fun e W' => e = .returned (.bool true) ∧ Below W.heap.size W W' := by
  have := query_always.calls x.f0.f0 x.f0.f1 x.f0.f2 x.f1 x.f2 x.f3 x.f4 x.f5 x.f6 x.f7 x.f8 true W rfl
  simpa [encB] using this
theorem enters_always : ∀ args w, (callFunc 49 args).run Try.prog w = .ok (.enter 49 args) w := fun args w => by kernel_rfl
/-- What found leaves. -/
def FoundPost (w : World) (L : List TB) (e : Ending) (w' : World) : Prop := ∃ v L', e = .returned v ∧ Below w.heap.size w w' ∧ ARow w' w.heap.size v L' ∧ Told (fun x y => cmpID x.f0 y.f0) L L'
/-- A store (or none) that holds L's entities, told in the order of All. -/
def Holds (w : World) (base : Nat) (p : Option Addr) (L : List TB) : Prop := (p = none ∧ L = []) ∨ ∃ b T, p = some ⟨b, 0, none⟩ ∧ Sto w base b T ∧ L = toL T
theorem Holds.below {w w' : World} {base : Nat} {p : Option Addr} {L : List TB} (h : Holds w base p L) (hb : Below w.heap.size w w') : Holds w' base p L := by
  rcases h with h | ⟨b, T, h1, h2, h3⟩
  · exact .inl h
  · exact .inr ⟨b, T, h1, h2.below hb, h3⟩
theorem found_x (w : World) {base : Nat} {p : Option Addr} {L : List TB} (h : Holds w base p L) (hlen : L.length < 1000) (qa qn : Int) (g : FuncId) (lb : Array Value) (hb : TB → Bool)
    (eg : ∀ args w, (callFunc g args).run Try.prog w = .ok (.enter g args) w)
    (hh : ∀ (x : TB) (W : World), Below w.heap.size w W → Calls Try.prog g (encB x ++ lb) W fun e W' => e = .returned (.bool (hb x)) ∧ Below W.heap.size W W') :
    Calls Try.prog 39 #[.pointer p, .agg #[.int .i64 qa, .int .i64 qn], .func (.func g) #[] lb] w (FoundPost w (fnd qa qn hb L)) := by
  rcases h with ⟨rfl, rfl⟩ | ⟨b, T, rfl, hS, rfl⟩
  · exact callsIn_wide.1 (found_nil Fence.wide rfl 3 (Nat.le_refl _) w qa qn g lb hb eg hh)
  · exact callsIn_wide.1 (found_in Fence.wide rfl 3 (Nat.le_refl _) w base b T hS hlen qa qn g lb hb eg hh)
theorem retI {k : IntKind} {a b : Int} (h : a = b) : Ending.returned (.int k a) = .returned (.int k b) := by rw [h]
theorem fnd_len (qa qn : Int) (hb : TB → Bool) (L : List TB) : (fnd qa qn hb L).length ≤ L.length := List.length_filter_le _ _
/-- What IDs, Within and Near leave: names of L', which is L in an order. -/
def NamesPost (cf : TB → TB → Int) (w : World) (L : List TB) (e : Ending) (w' : World) : Prop := ∃ v L', e = .returned v ∧ Below w.heap.size w w' ∧ IRow w' w.heap.size v (L'.map (·.f0)) ∧ Told cf L L'
set_option maxRecDepth 100000 in
set_option maxHeartbeats 1600000 in
theorem ids_x (w : World) {base : Nat} {p : Option Addr} {L : List TB} (h : Holds w base p L) (hlen : L.length < 1000) (qa qn : Int) :
    Calls Try.prog 26 #[.pointer p, .agg #[.int .i64 qa, .int .i64 qn]] w (NamesPost (fun x y => cmpID x.f0 y.f0) w (fnd qa qn (fun _ => true) L)) := by
  have hbx : Below w.heap.size w (w.alloc (.cells #[.int .i64 qa, .int .i64 qn] 23)) := below_alloc (Below.refl _ _) _
  have hf := found_x _ (h.below hbx) hlen qa qn 49 #[] (fun _ => true) enters_always (fun x W _ => always_ok x W)
  have hl := fnd_len qa qn (fun _ => true) L
  go_enter Try.func26, Try.ntmps26
  go_wp2_with ((with_reducible refine hf.mono ?_); rintro e w1 ⟨v, L', rfl, hb1, hA, hT⟩; have hn := names_x w1 _ v L' hA (by rw [hT.length]; omega))
  refine hn.mono ?_
  rintro e w2 ⟨v', rfl, hI, hb2⟩
  go_wp2
  go_ret
  have hb1' : Below w.heap.size w w1 := hbx.trans (hb1.mono (by simp))
  exact ⟨v', L', rfl, hb1'.trans (hb2.mono hb1'.size), Kd.R_lower hI hb1'.size, hT⟩
set_option maxRecDepth 100000 in
set_option maxHeartbeats 1600000 in
theorem count_x (w : World) {base : Nat} {p : Option Addr} {L : List TB} (h : Holds w base p L) (hlen : L.length < 1000) (qa qn : Int) :
    Calls Try.prog 29 #[.pointer p, .agg #[.int .i64 qa, .int .i64 qn]] w fun e w' => e = .returned (.int .i64 (fnd qa qn (fun _ => true) L).length) ∧ Below w.heap.size w w' := by
  have hbx : Below w.heap.size w (w.alloc (.cells #[.int .i64 qa, .int .i64 qn] 23)) := below_alloc (Below.refl _ _) _
  have hf := found_x _ (h.below hbx) hlen qa qn 49 #[] (fun _ => true) enters_always (fun x W _ => always_ok x W)
  have hl := fnd_len qa qn (fun _ => true) L
  go_enter Try.func29, Try.ntmps29
  go_wp2_with ((with_reducible refine hf.mono ?_); rintro e w1 ⟨v, L', rfl, hb1, hA, hT⟩; obtain ⟨A, c, rfl, hc, hC⟩ := hA.reads (by rw [hT.length]; omega))
  go_ret
  have hb1' : Below w.heap.size w w1 := hbx.trans (hb1.mono (by simp))
  exact ⟨retI (congrArg Int.ofNat hT.length), hb1'⟩
end Go.Proofs.Ythcgiacjmfmamaa.PA

namespace Go.Proofs.Ythcgiacjmfmamaa.PA
set_option linter.unusedVariables false
set_option linter.unusedSimpArgs false
open Go.RowKit Go.Shelf Go.Proofs.YthcgiacjmfmamaaW.PrintWords
set_option maxRecDepth 100000 in
set_option maxHeartbeats 1600000 in
theorem within1_x (W : World) (x : TB) (B : Nat) (x0 y0 x1 y1 : Int) (r : Bool) (hB : W.heap[B]? = some (.cells #[.int .i64 x0, .int .i64 y0, .int .i64 x1, .int .i64 y1] 31 (0, 0))) (hr : rect_Has.f x0 y0 x1 y1 x.f2 x.f3 = some r) :
    Calls Try.prog 40 (encB x ++ #[.pointer (some ⟨B, 0, none⟩)]) W fun e W' => e = .returned (.bool r) ∧ Below W.heap.size W W' := by
  have c0 : W.cell? ⟨B, 0, none⟩ = some (.int .i64 x0) := (blk_cell hB 0).trans rfl
  have c1 : W.cell? ⟨B, 1, none⟩ = some (.int .i64 y0) := (blk_cell hB 1).trans rfl
  have c2 : W.cell? ⟨B, 2, none⟩ = some (.int .i64 x1) := (blk_cell hB 2).trans rfl
  have c3 : W.cell? ⟨B, 3, none⟩ = some (.int .i64 y1) := (blk_cell hB 3).trans rfl
  have hlt := blk_lt hB
  have HR := Aside0.mk hr
  clear hr hB
  unfold encB
  show Calls Try.prog 40 #[_, _] _ _
  go_enter Try.func40, Try.ntmps40
  go_wp2_with ((with_reducible refine (rect_Has.calls x0 y0 x1 y1 x.f2 x.f3 r _ HR.out).mono ?_); rintro e W' ⟨rfl, hb1⟩)
  go_ret
  exact ⟨rfl, (below_alloc (Below.refl _ _) _).trans (hb1.mono (by simp))⟩
set_option maxRecDepth 100000 in
set_option maxHeartbeats 1600000 in
theorem near1_x (W : World) (x : TB) (Bx By : Nat) (px py : Int) (r : Int) (hX : Boxed W Bx 3 (.int .i64 px)) (hY : Boxed W By 3 (.int .i64 py)) (hr : rect_Far.f px py x.f2 x.f3 = some r) :
    Calls Try.prog 43 (encB x ++ #[.pointer (some ⟨Bx, 0, none⟩), .pointer (some ⟨By, 0, none⟩)]) W fun e W' => e = .returned (.int .i64 r) ∧ Below W.heap.size W W' := by
  have c0 := hX.cell
  have c1 := hY.cell
  have hlt := hX.lt
  have hlt2 := hY.lt
  have HR := Aside0.mk hr
  clear hr hX hY
  unfold encB
  show Calls Try.prog 43 #[_, _, _] _ _
  go_enter Try.func43, Try.ntmps43
  go_wp2_with ((with_reducible refine (rect_Far.calls px py x.f2 x.f3 r _ HR.out).mono ?_); rintro e W' ⟨rfl, hb1⟩)
  go_ret
  exact ⟨rfl, (below_alloc (Below.refl _ _) _).trans (hb1.mono (by simp))⟩
/-- What the boxes of Near hold. -/
structure NBox (W : World) (fb db : Nat) (px py d : Int) (Bx By : Nat) : Prop where
  f : Boxed W fb 75 (.func (.func 43) #[] #[.pointer (some ⟨Bx, 0, none⟩), .pointer (some ⟨By, 0, none⟩)])
  d : Boxed W db 3 (.int .i64 d)
  x : Boxed W Bx 3 (.int .i64 px)
  y : Boxed W By 3 (.int .i64 py)
theorem NBox.kept {W W' : World} {fb db : Nat} {px py d : Int} {Bx By : Nat} (h : NBox W fb db px py d Bx By) (hb : Below W.heap.size W W') : NBox W' fb db px py d Bx By :=
  ⟨h.f.kept (grown_below hb) (by simp), h.d.kept (grown_below hb) (by simp), h.x.kept (grown_below hb) (by simp), h.y.kept (grown_below hb) (by simp)⟩
theorem near_keep0 {W1 : World} {fb db Bx By bb : Nat} {px py d : Int} {x : TB} (h : NBox W1 fb db px py d Bx By) (hbx : W1.heap[bb]? = some (.cells #[.int .i64 x.f0.f0, .int .i64 x.f0.f1, .int .i64 x.f0.f2, .int .i64 x.f1, .int .i64 x.f2, .int .i64 x.f3, .int .i64 x.f4, .int .i64 x.f5, .int .i64 x.f6, .int .i64 x.f7, .int .i64 x.f8] 51 (0, 0))) (W' : World) (hb : Below W1.heap.size W1 W') : (W'.cell? ⟨fb, 0, none⟩ = some (.func (.func 43) #[] #[.pointer (some ⟨Bx, 0, none⟩), .pointer (some ⟨By, 0, none⟩)]) ∧ W'.cell? ⟨db, 0, none⟩ = some (.int .i64 d) ∧ W'.cell? ⟨bb, 0, none⟩ = some (.int .i64 x.f0.f0) ∧ W'.cell? ⟨bb, 1, none⟩ = some (.int .i64 x.f0.f1) ∧ W'.cell? ⟨bb, 2, none⟩ = some (.int .i64 x.f0.f2) ∧ W'.cell? ⟨bb, 3, none⟩ = some (.int .i64 x.f1) ∧ W'.cell? ⟨bb, 4, none⟩ = some (.int .i64 x.f2) ∧ W'.cell? ⟨bb, 5, none⟩ = some (.int .i64 x.f3) ∧ W'.cell? ⟨bb, 6, none⟩ = some (.int .i64 x.f4) ∧ W'.cell? ⟨bb, 7, none⟩ = some (.int .i64 x.f5) ∧ W'.cell? ⟨bb, 8, none⟩ = some (.int .i64 x.f6) ∧ W'.cell? ⟨bb, 9, none⟩ = some (.int .i64 x.f7) ∧ W'.cell? ⟨bb, 10, none⟩ = some (.int .i64 x.f8)) ∧ Below W1.heap.size W1 W' := by
  have h' := h.kept hb
  obtain ⟨x0, x1, x2, x3, x4, x5, x6, x7, x8, x9, x10⟩ := box11 ((hb.block _ (blk_lt hbx)).trans hbx)
  exact ⟨⟨h'.f.cell, h'.d.cell, x0, x1, x2, x3, x4, x5, x6, x7, x8, x9, x10⟩, hb⟩
theorem near_keep1 {W1 Wa : World} {fb db Bx By bb : Nat} {px py d : Int} {x : TB} (h : NBox W1 fb db px py d Bx By) (hbx : W1.heap[bb]? = some (.cells #[.int .i64 x.f0.f0, .int .i64 x.f0.f1, .int .i64 x.f0.f2, .int .i64 x.f1, .int .i64 x.f2, .int .i64 x.f3, .int .i64 x.f4, .int .i64 x.f5, .int .i64 x.f6, .int .i64 x.f7, .int .i64 x.f8] 51 (0, 0))) {A : Prop} {W' : World} (hb : Below Wa.heap.size Wa W') (hA : A ∧ Below W1.heap.size W1 Wa) : (W'.cell? ⟨fb, 0, none⟩ = some (.func (.func 43) #[] #[.pointer (some ⟨Bx, 0, none⟩), .pointer (some ⟨By, 0, none⟩)]) ∧ W'.cell? ⟨db, 0, none⟩ = some (.int .i64 d) ∧ W'.cell? ⟨bb, 0, none⟩ = some (.int .i64 x.f0.f0) ∧ W'.cell? ⟨bb, 1, none⟩ = some (.int .i64 x.f0.f1) ∧ W'.cell? ⟨bb, 2, none⟩ = some (.int .i64 x.f0.f2) ∧ W'.cell? ⟨bb, 3, none⟩ = some (.int .i64 x.f1) ∧ W'.cell? ⟨bb, 4, none⟩ = some (.int .i64 x.f2) ∧ W'.cell? ⟨bb, 5, none⟩ = some (.int .i64 x.f3) ∧ W'.cell? ⟨bb, 6, none⟩ = some (.int .i64 x.f4) ∧ W'.cell? ⟨bb, 7, none⟩ = some (.int .i64 x.f5) ∧ W'.cell? ⟨bb, 8, none⟩ = some (.int .i64 x.f6) ∧ W'.cell? ⟨bb, 9, none⟩ = some (.int .i64 x.f7) ∧ W'.cell? ⟨bb, 10, none⟩ = some (.int .i64 x.f8)) ∧ Below W1.heap.size W1 W' :=
  near_keep0 h hbx W' (hA.2.trans (hb.mono hA.2.size))
theorem near_box {W1 Wa : World} {fb db Bx By : Nat} {px py d : Int} {A : Prop} (hA : A ∧ Below W1.heap.size W1 Wa) (h : NBox W1 fb db px py d Bx By) : NBox Wa fb db px py d Bx By := h.kept hA.2
set_option maxRecDepth 100000 in
set_option maxHeartbeats 1600000 in
theorem near2_x (W : World) (x : TB) (fb db Bx By : Nat) (px py d : Int) (r : Int) (h : NBox W fb db px py d Bx By) (hr : rect_Far.f px py x.f2 x.f3 = some r) :
    Calls Try.prog 45 (encB x ++ #[.pointer (some ⟨fb, 0, none⟩), .pointer (some ⟨db, 0, none⟩)]) W fun e W' => e = .returned (.bool (decide (r ≤ d))) ∧ Below W.heap.size W W' := by
  have c0 := h.f.cell
  have c1 := h.d.cell
  have l0 := h.f.lt
  have l1 := h.d.lt
  have HR := Aside0.mk hr
  have HN := Aside0.mk h
  have hne : (.func (.func 43) #[] #[.pointer (some ⟨Bx, 0, none⟩), .pointer (some ⟨By, 0, none⟩)] : Value) = .func (.func 43) #[] #[.pointer (some ⟨Bx, 0, none⟩), .pointer (some ⟨By, 0, none⟩)] := rfl
  clear hr h hne
  unfold encB
  show Calls Try.prog 45 #[_, _, _] _ _
  go_enter Try.func45, Try.ntmps45
  go_wp2
  obtain ⟨W1, hW1⟩ : ∃ W1, W1 = W.alloc (.cells #[.int .i64 x.f0.f0, .int .i64 x.f0.f1, .int .i64 x.f0.f2, .int .i64 x.f1, .int .i64 x.f2, .int .i64 x.f3, .int .i64 x.f4, .int .i64 x.f5, .int .i64 x.f6, .int .i64 x.f7, .int .i64 x.f8] 51) := ⟨_, rfl⟩
  rw [← hW1]
  have hb1 : Below W.heap.size W W1 := by rw [hW1]; exact below_alloc (Below.refl _ _) _
  have bx : W1.heap[W.heap.size]? = some (.cells #[.int .i64 x.f0.f0, .int .i64 x.f0.f1, .int .i64 x.f0.f2, .int .i64 x.f1, .int .i64 x.f2, .int .i64 x.f3, .int .i64 x.f4, .int .i64 x.f5, .int .i64 x.f6, .int .i64 x.f7, .int .i64 x.f8] 51 (0, 0)) := by rw [hW1]; exact heap_alloc_new W _
  have HN1 := Aside0.mk (HN.out.kept hb1)
  have HBX := Aside0.mk bx
  obtain ⟨x0, x1, x2, x3, x4, x5, x6, x7, x8, x9, x10⟩ := box11 bx
  have d0 := HN1.out.f.cell
  have d1 := HN1.out.d.cell
  have HRF : Aside0 (Below W1.heap.size W1 W1) := Aside0.mk (Below.refl _ _)
  clear hW1 bx c0 c1 l0 l1
  go_region_held3 (fun W' => (W'.cell? ⟨fb, 0, none⟩ = some (.func (.func 43) #[] #[.pointer (some ⟨Bx, 0, none⟩), .pointer (some ⟨By, 0, none⟩)]) ∧ W'.cell? ⟨db, 0, none⟩ = some (.int .i64 d) ∧ W'.cell? ⟨W.heap.size, 0, none⟩ = some (.int .i64 x.f0.f0) ∧ W'.cell? ⟨W.heap.size, 1, none⟩ = some (.int .i64 x.f0.f1) ∧ W'.cell? ⟨W.heap.size, 2, none⟩ = some (.int .i64 x.f0.f2) ∧ W'.cell? ⟨W.heap.size, 3, none⟩ = some (.int .i64 x.f1) ∧ W'.cell? ⟨W.heap.size, 4, none⟩ = some (.int .i64 x.f2) ∧ W'.cell? ⟨W.heap.size, 5, none⟩ = some (.int .i64 x.f3) ∧ W'.cell? ⟨W.heap.size, 6, none⟩ = some (.int .i64 x.f4) ∧ W'.cell? ⟨W.heap.size, 7, none⟩ = some (.int .i64 x.f5) ∧ W'.cell? ⟨W.heap.size, 8, none⟩ = some (.int .i64 x.f6) ∧ W'.cell? ⟨W.heap.size, 9, none⟩ = some (.int .i64 x.f7) ∧ W'.cell? ⟨W.heap.size, 10, none⟩ = some (.int .i64 x.f8)) ∧ Below W1.heap.size W1 W') (first | exact near_keep1 HN1.out HBX.out (by assumption) (by assumption) | exact near_keep0 HN1.out HBX.out _ (by first | exact Below.refl _ _ | exact below_drew (Below.refl _ _)))
    (first | (refine (near1_x _ x Bx By px py r (near_box ‹_› HN1.out).x (near_box ‹_› HN1.out).y HR.out).mono ?_; rintro e w' ⟨rfl, hbw⟩))
  all_goals
    rename_i hS
    have hBe := Aside0.mk (hb1.trans (hS.2.mono hb1.size))
    clear hS
    go_wp2
    go_ret
    exact ⟨rfl, hBe.out⟩
def farI (px py a b : Int) : Int := (rect_Far.f px py a b).getD 0
theorem far_f (px py a b : Int) : rect_Far.f px py a b = some (farI px py a b) := by
  unfold farI rect_Far.f fixed_Clamp.f
  rfl
theorem near1_l (W : World) (x : TB) (Bx By : Nat) (px py : Int) (hX : Boxed W Bx 3 (.int .i64 px)) (hY : Boxed W By 3 (.int .i64 py)) :
    Calls Try.prog 43 #[.agg #[.int .i64 x.f0.f0, .int .i64 x.f0.f1, .int .i64 x.f0.f2, .int .i64 x.f1, .int .i64 x.f2, .int .i64 x.f3, .int .i64 x.f4, .int .i64 x.f5, .int .i64 x.f6, .int .i64 x.f7, .int .i64 x.f8], .pointer (some ⟨Bx, 0, none⟩), .pointer (some ⟨By, 0, none⟩)] W fun e W' => e = .returned (.int .i64 (farI px py x.f2 x.f3)) ∧ Below W.heap.size W W' :=
  near1_x W x Bx By px py _ hX hY (far_f px py x.f2 x.f3)
theorem near3_keep0 {W1 : World} {fb db Bx By ba bb : Nat} {px py d : Int} {x y : TB} (h : NBox W1 fb db px py d Bx By) (hbx : W1.heap[ba]? = some (.cells #[.int .i64 x.f0.f0, .int .i64 x.f0.f1, .int .i64 x.f0.f2, .int .i64 x.f1, .int .i64 x.f2, .int .i64 x.f3, .int .i64 x.f4, .int .i64 x.f5, .int .i64 x.f6, .int .i64 x.f7, .int .i64 x.f8] 51 (0, 0))) (hby : W1.heap[bb]? = some (.cells #[.int .i64 y.f0.f0, .int .i64 y.f0.f1, .int .i64 y.f0.f2, .int .i64 y.f1, .int .i64 y.f2, .int .i64 y.f3, .int .i64 y.f4, .int .i64 y.f5, .int .i64 y.f6, .int .i64 y.f7, .int .i64 y.f8] 51 (0, 0))) (W' : World) (hb : Below W1.heap.size W1 W') : (W'.cell? ⟨fb, 0, none⟩ = some (.func (.func 43) #[] #[.pointer (some ⟨Bx, 0, none⟩), .pointer (some ⟨By, 0, none⟩)]) ∧ W'.cell? ⟨ba, 0, none⟩ = some (.int .i64 x.f0.f0) ∧ W'.cell? ⟨ba, 1, none⟩ = some (.int .i64 x.f0.f1) ∧ W'.cell? ⟨ba, 2, none⟩ = some (.int .i64 x.f0.f2) ∧ W'.cell? ⟨ba, 3, none⟩ = some (.int .i64 x.f1) ∧ W'.cell? ⟨ba, 4, none⟩ = some (.int .i64 x.f2) ∧ W'.cell? ⟨ba, 5, none⟩ = some (.int .i64 x.f3) ∧ W'.cell? ⟨ba, 6, none⟩ = some (.int .i64 x.f4) ∧ W'.cell? ⟨ba, 7, none⟩ = some (.int .i64 x.f5) ∧ W'.cell? ⟨ba, 8, none⟩ = some (.int .i64 x.f6) ∧ W'.cell? ⟨ba, 9, none⟩ = some (.int .i64 x.f7) ∧ W'.cell? ⟨ba, 10, none⟩ = some (.int .i64 x.f8) ∧ W'.cell? ⟨bb, 0, none⟩ = some (.int .i64 y.f0.f0) ∧ W'.cell? ⟨bb, 1, none⟩ = some (.int .i64 y.f0.f1) ∧ W'.cell? ⟨bb, 2, none⟩ = some (.int .i64 y.f0.f2) ∧ W'.cell? ⟨bb, 3, none⟩ = some (.int .i64 y.f1) ∧ W'.cell? ⟨bb, 4, none⟩ = some (.int .i64 y.f2) ∧ W'.cell? ⟨bb, 5, none⟩ = some (.int .i64 y.f3) ∧ W'.cell? ⟨bb, 6, none⟩ = some (.int .i64 y.f4) ∧ W'.cell? ⟨bb, 7, none⟩ = some (.int .i64 y.f5) ∧ W'.cell? ⟨bb, 8, none⟩ = some (.int .i64 y.f6) ∧ W'.cell? ⟨bb, 9, none⟩ = some (.int .i64 y.f7) ∧ W'.cell? ⟨bb, 10, none⟩ = some (.int .i64 y.f8)) ∧ Below W1.heap.size W1 W' := by
  have h' := h.kept hb
  obtain ⟨x0, x1, x2, x3, x4, x5, x6, x7, x8, x9, x10⟩ := box11 ((hb.block _ (blk_lt hbx)).trans hbx)
  obtain ⟨y0, y1, y2, y3, y4, y5, y6, y7, y8, y9, y10⟩ := box11 ((hb.block _ (blk_lt hby)).trans hby)
  exact ⟨⟨h'.f.cell, x0, x1, x2, x3, x4, x5, x6, x7, x8, x9, x10, y0, y1, y2, y3, y4, y5, y6, y7, y8, y9, y10⟩, hb⟩
theorem near3_keep1 {W1 Wa : World} {fb db Bx By ba bb : Nat} {px py d : Int} {x y : TB} (h : NBox W1 fb db px py d Bx By) (hbx : W1.heap[ba]? = some (.cells #[.int .i64 x.f0.f0, .int .i64 x.f0.f1, .int .i64 x.f0.f2, .int .i64 x.f1, .int .i64 x.f2, .int .i64 x.f3, .int .i64 x.f4, .int .i64 x.f5, .int .i64 x.f6, .int .i64 x.f7, .int .i64 x.f8] 51 (0, 0))) (hby : W1.heap[bb]? = some (.cells #[.int .i64 y.f0.f0, .int .i64 y.f0.f1, .int .i64 y.f0.f2, .int .i64 y.f1, .int .i64 y.f2, .int .i64 y.f3, .int .i64 y.f4, .int .i64 y.f5, .int .i64 y.f6, .int .i64 y.f7, .int .i64 y.f8] 51 (0, 0))) {A : Prop} {W' : World} (hb : Below Wa.heap.size Wa W') (hA : A ∧ Below W1.heap.size W1 Wa) : (W'.cell? ⟨fb, 0, none⟩ = some (.func (.func 43) #[] #[.pointer (some ⟨Bx, 0, none⟩), .pointer (some ⟨By, 0, none⟩)]) ∧ W'.cell? ⟨ba, 0, none⟩ = some (.int .i64 x.f0.f0) ∧ W'.cell? ⟨ba, 1, none⟩ = some (.int .i64 x.f0.f1) ∧ W'.cell? ⟨ba, 2, none⟩ = some (.int .i64 x.f0.f2) ∧ W'.cell? ⟨ba, 3, none⟩ = some (.int .i64 x.f1) ∧ W'.cell? ⟨ba, 4, none⟩ = some (.int .i64 x.f2) ∧ W'.cell? ⟨ba, 5, none⟩ = some (.int .i64 x.f3) ∧ W'.cell? ⟨ba, 6, none⟩ = some (.int .i64 x.f4) ∧ W'.cell? ⟨ba, 7, none⟩ = some (.int .i64 x.f5) ∧ W'.cell? ⟨ba, 8, none⟩ = some (.int .i64 x.f6) ∧ W'.cell? ⟨ba, 9, none⟩ = some (.int .i64 x.f7) ∧ W'.cell? ⟨ba, 10, none⟩ = some (.int .i64 x.f8) ∧ W'.cell? ⟨bb, 0, none⟩ = some (.int .i64 y.f0.f0) ∧ W'.cell? ⟨bb, 1, none⟩ = some (.int .i64 y.f0.f1) ∧ W'.cell? ⟨bb, 2, none⟩ = some (.int .i64 y.f0.f2) ∧ W'.cell? ⟨bb, 3, none⟩ = some (.int .i64 y.f1) ∧ W'.cell? ⟨bb, 4, none⟩ = some (.int .i64 y.f2) ∧ W'.cell? ⟨bb, 5, none⟩ = some (.int .i64 y.f3) ∧ W'.cell? ⟨bb, 6, none⟩ = some (.int .i64 y.f4) ∧ W'.cell? ⟨bb, 7, none⟩ = some (.int .i64 y.f5) ∧ W'.cell? ⟨bb, 8, none⟩ = some (.int .i64 y.f6) ∧ W'.cell? ⟨bb, 9, none⟩ = some (.int .i64 y.f7) ∧ W'.cell? ⟨bb, 10, none⟩ = some (.int .i64 y.f8)) ∧ Below W1.heap.size W1 W' :=
  near3_keep0 h hbx hby W' (hA.2.trans (hb.mono hA.2.size))
theorem drawn_b {w w' : World} (h : Drawn0 w w') : Below w.heap.size w w' := by
  obtain ⟨n, rfl⟩ := h
  exact pw_below_drewN (Below.refl _ _) n
set_option maxRecDepth 100000 in
set_option maxHeartbeats 3200000 in
theorem near3_x (W : World) (x y : TB) (fb db Bx By : Nat) (px py d : Int) (h : NBox W fb db px py d Bx By) :
    Calls Try.prog 47 (#[.agg #[.int .i64 x.f0.f0, .int .i64 x.f0.f1, .int .i64 x.f0.f2, .int .i64 x.f1, .int .i64 x.f2, .int .i64 x.f3, .int .i64 x.f4, .int .i64 x.f5, .int .i64 x.f6, .int .i64 x.f7, .int .i64 x.f8], .agg #[.int .i64 y.f0.f0, .int .i64 y.f0.f1, .int .i64 y.f0.f2, .int .i64 y.f1, .int .i64 y.f2, .int .i64 y.f3, .int .i64 y.f4, .int .i64 y.f5, .int .i64 y.f6, .int .i64 y.f7, .int .i64 y.f8]] ++ #[.pointer (some ⟨fb, 0, none⟩)]) W fun e W' => e = .returned (.int .i64 (cmpI (farI px py x.f2 x.f3) (farI px py y.f2 y.f3))) ∧ Below W.heap.size W W' := by
  have c0 := h.f.cell
  have l0 := h.f.lt
  have HN := Aside0.mk h
  clear h
  show Calls Try.prog 47 #[_, _, _] _ _
  go_enter Try.func47, Try.ntmps47
  go_wp2
  obtain ⟨W1, hW1⟩ : ∃ W1, W1 = (W.alloc (.cells #[.int .i64 x.f0.f0, .int .i64 x.f0.f1, .int .i64 x.f0.f2, .int .i64 x.f1, .int .i64 x.f2, .int .i64 x.f3, .int .i64 x.f4, .int .i64 x.f5, .int .i64 x.f6, .int .i64 x.f7, .int .i64 x.f8] 51)).alloc (.cells #[.int .i64 y.f0.f0, .int .i64 y.f0.f1, .int .i64 y.f0.f2, .int .i64 y.f1, .int .i64 y.f2, .int .i64 y.f3, .int .i64 y.f4, .int .i64 y.f5, .int .i64 y.f6, .int .i64 y.f7, .int .i64 y.f8] 51) := ⟨_, rfl⟩
  rw [← hW1]
  have hb1 : Below W.heap.size W W1 := by rw [hW1]; exact below_alloc (below_alloc (Below.refl _ _) _) _
  have bx : W1.heap[W.heap.size]? = some (.cells #[.int .i64 x.f0.f0, .int .i64 x.f0.f1, .int .i64 x.f0.f2, .int .i64 x.f1, .int .i64 x.f2, .int .i64 x.f3, .int .i64 x.f4, .int .i64 x.f5, .int .i64 x.f6, .int .i64 x.f7, .int .i64 x.f8] 51 (0, 0)) := by rw [hW1, heap_old _ _ _ (by simp)]; exact heap_alloc_new W _
  have by1 : W1.heap[W.heap.size + 1]? = some (.cells #[.int .i64 y.f0.f0, .int .i64 y.f0.f1, .int .i64 y.f0.f2, .int .i64 y.f1, .int .i64 y.f2, .int .i64 y.f3, .int .i64 y.f4, .int .i64 y.f5, .int .i64 y.f6, .int .i64 y.f7, .int .i64 y.f8] 51 (0, 0)) := by
    rw [hW1]
    have := heap_alloc_new (W.alloc (.cells #[.int .i64 x.f0.f0, .int .i64 x.f0.f1, .int .i64 x.f0.f2, .int .i64 x.f1, .int .i64 x.f2, .int .i64 x.f3, .int .i64 x.f4, .int .i64 x.f5, .int .i64 x.f6, .int .i64 x.f7, .int .i64 x.f8] 51)) (.cells #[.int .i64 y.f0.f0, .int .i64 y.f0.f1, .int .i64 y.f0.f2, .int .i64 y.f1, .int .i64 y.f2, .int .i64 y.f3, .int .i64 y.f4, .int .i64 y.f5, .int .i64 y.f6, .int .i64 y.f7, .int .i64 y.f8] 51)
    rw [World.size_alloc] at this; exact this
  have HN1 := Aside0.mk (HN.out.kept hb1)
  have HBX := Aside0.mk bx
  have HBY := Aside0.mk by1
  obtain ⟨x0, x1, x2, x3, x4, x5, x6, x7, x8, x9, x10⟩ := box11 bx
  obtain ⟨y0, y1, y2, y3, y4, y5, y6, y7, y8, y9, y10⟩ := box11 by1
  have d0 := HN1.out.f.cell
  have HRF : Aside0 (Below W1.heap.size W1 W1) := Aside0.mk (Below.refl _ _)
  clear hW1 bx by1 c0 l0
  go_region_held3 (fun W' => (W'.cell? ⟨fb, 0, none⟩ = some (.func (.func 43) #[] #[.pointer (some ⟨Bx, 0, none⟩), .pointer (some ⟨By, 0, none⟩)]) ∧ W'.cell? ⟨W.heap.size, 0, none⟩ = some (.int .i64 x.f0.f0) ∧ W'.cell? ⟨W.heap.size, 1, none⟩ = some (.int .i64 x.f0.f1) ∧ W'.cell? ⟨W.heap.size, 2, none⟩ = some (.int .i64 x.f0.f2) ∧ W'.cell? ⟨W.heap.size, 3, none⟩ = some (.int .i64 x.f1) ∧ W'.cell? ⟨W.heap.size, 4, none⟩ = some (.int .i64 x.f2) ∧ W'.cell? ⟨W.heap.size, 5, none⟩ = some (.int .i64 x.f3) ∧ W'.cell? ⟨W.heap.size, 6, none⟩ = some (.int .i64 x.f4) ∧ W'.cell? ⟨W.heap.size, 7, none⟩ = some (.int .i64 x.f5) ∧ W'.cell? ⟨W.heap.size, 8, none⟩ = some (.int .i64 x.f6) ∧ W'.cell? ⟨W.heap.size, 9, none⟩ = some (.int .i64 x.f7) ∧ W'.cell? ⟨W.heap.size, 10, none⟩ = some (.int .i64 x.f8) ∧ W'.cell? ⟨W.heap.size + 1, 0, none⟩ = some (.int .i64 y.f0.f0) ∧ W'.cell? ⟨W.heap.size + 1, 1, none⟩ = some (.int .i64 y.f0.f1) ∧ W'.cell? ⟨W.heap.size + 1, 2, none⟩ = some (.int .i64 y.f0.f2) ∧ W'.cell? ⟨W.heap.size + 1, 3, none⟩ = some (.int .i64 y.f1) ∧ W'.cell? ⟨W.heap.size + 1, 4, none⟩ = some (.int .i64 y.f2) ∧ W'.cell? ⟨W.heap.size + 1, 5, none⟩ = some (.int .i64 y.f3) ∧ W'.cell? ⟨W.heap.size + 1, 6, none⟩ = some (.int .i64 y.f4) ∧ W'.cell? ⟨W.heap.size + 1, 7, none⟩ = some (.int .i64 y.f5) ∧ W'.cell? ⟨W.heap.size + 1, 8, none⟩ = some (.int .i64 y.f6) ∧ W'.cell? ⟨W.heap.size + 1, 9, none⟩ = some (.int .i64 y.f7) ∧ W'.cell? ⟨W.heap.size + 1, 10, none⟩ = some (.int .i64 y.f8)) ∧ Below W1.heap.size W1 W') (first | exact near3_keep0 HN1.out HBX.out HBY.out _ (by first | exact Below.refl _ _ | exact below_drew (Below.refl _ _)) | exact near3_keep1 HN1.out HBX.out HBY.out (by assumption) (by assumption))
    (first | ((with_reducible refine (near1_l _ x Bx By px py ?_ ?_).mono ?_); (exact (near_box (by assumption) HN1.out).x); (exact (near_box (by assumption) HN1.out).y); rintro e w' ⟨rfl, hbw⟩) | ((with_reducible refine (near1_l _ y Bx By px py ?_ ?_).mono ?_); (exact (near_box (by assumption) HN1.out).x); (exact (near_box (by assumption) HN1.out).y); rintro e w' ⟨rfl, hbw⟩) | ((with_reducible refine (cmp_Compare_int.calls (farI px py x.f2 x.f3) (farI px py y.f2 y.f3) _ _ (compare_int _ _)).mono ?_); rintro e w' ⟨rfl, hbd⟩; have hbw := drawn_b hbd))
  all_goals
    rename_i hS
    have hBe := Aside0.mk (hb1.trans (hS.2.mono hb1.size))
    clear hS
    go_wp2
    go_ret
    exact ⟨rfl, hBe.out⟩
end Go.Proofs.Ythcgiacjmfmamaa.PA

namespace Go.Proofs.Ythcgiacjmfmamaa.PA
set_option linter.unusedVariables false
set_option linter.unusedSimpArgs false
open Go.RowKit Go.Shelf Go.Proofs.YthcgiacjmfmamaaW.PrintWords
def hasI (x0 y0 x1 y1 a b : Int) : Bool := (rect_Has.f x0 y0 x1 y1 a b).getD false
theorem has_f (x0 y0 x1 y1 a b : Int) : rect_Has.f x0 y0 x1 y1 a b = some (hasI x0 y0 x1 y1 a b) := by
  have : ∃ r, rect_Has.f x0 y0 x1 y1 a b = some r := by
    unfold rect_Has.f rect_Gap.f rect_box.f fixed_Clamp.f rect_off.f
    simp only [Option.bind_some]
    split
    · simp only [Option.bind_some]
      split
      · exact ⟨_, rfl⟩
      · exact ⟨_, rfl⟩
    · exact ⟨_, rfl⟩
  obtain ⟨r, h⟩ := this
  unfold hasI
  rw [h]
  rfl
theorem enters_within1 : ∀ args w, (callFunc 40 args).run Try.prog w = .ok (.enter 40 args) w := fun args w => by kernel_rfl
theorem enters_near2 : ∀ args w, (callFunc 45 args).run Try.prog w = .ok (.enter 45 args) w := fun args w => by kernel_rfl
theorem enters_near3 : ∀ args w, (callFunc 47 args).run Try.prog w = .ok (.enter 47 args) w := fun args w => by kernel_rfl
set_option maxRecDepth 100000 in
set_option maxHeartbeats 1600000 in
theorem within_x (w : World) {base : Nat} {p : Option Addr} {L : List TB} (h : Holds w base p L) (hlen : L.length < 1000) (qa qn x0 y0 x1 y1 : Int) :
    Calls Try.prog 21 #[.pointer p, .agg #[.int .i64 qa, .int .i64 qn], .agg #[.int .i64 x0, .int .i64 y0, .int .i64 x1, .int .i64 y1]] w (NamesPost (fun x y => cmpID x.f0 y.f0) w (fnd qa qn (fun b => hasI x0 y0 x1 y1 b.f2 b.f3) L)) := by
  have hbx : Below w.heap.size w ((w.alloc (.cells #[.int .i64 qa, .int .i64 qn] 23)).alloc (.cells #[.int .i64 x0, .int .i64 y0, .int .i64 x1, .int .i64 y1] 31)) := below_alloc (below_alloc (Below.refl _ _) _) _
  have hbr : ((w.alloc (.cells #[.int .i64 qa, .int .i64 qn] 23)).alloc (.cells #[.int .i64 x0, .int .i64 y0, .int .i64 x1, .int .i64 y1] 31)).heap[w.heap.size + 1]? = some (.cells #[.int .i64 x0, .int .i64 y0, .int .i64 x1, .int .i64 y1] 31 (0, 0)) := by
    have := heap_alloc_new (w.alloc (.cells #[.int .i64 qa, .int .i64 qn] 23)) (.cells #[.int .i64 x0, .int .i64 y0, .int .i64 x1, .int .i64 y1] 31)
    rw [World.size_alloc] at this; exact this
  have hf := found_x _ (h.below hbx) hlen qa qn 40 #[.pointer (some ⟨w.heap.size + 1, 0, none⟩)] (fun b => hasI x0 y0 x1 y1 b.f2 b.f3) enters_within1 (fun x W hb => within1_x W x (w.heap.size + 1) x0 y0 x1 y1 _ ((hb.block _ (by simp)).trans hbr) (has_f _ _ _ _ _ _))
  have hl := fnd_len qa qn (fun b => hasI x0 y0 x1 y1 b.f2 b.f3) L
  have HBR := Aside0.mk hbr
  clear hbr
  go_enter Try.func21, Try.ntmps21
  go_wp2_with ((with_reducible refine hf.mono ?_); rintro e w1 ⟨v, L', rfl, hb1, hA, hT⟩; have hn := names_x w1 _ v L' hA (by rw [hT.length]; omega))
  refine hn.mono ?_
  rintro e w2 ⟨v', rfl, hI, hb2⟩
  go_wp2
  go_ret
  have hb1' : Below w.heap.size w w1 := hbx.trans (hb1.mono (by simp; omega))
  exact ⟨v', L', rfl, hb1'.trans (hb2.mono hb1'.size), Kd.R_lower hI hb1'.size, hT⟩
/-- How far things lie apart, the nearest first. -/
def farC (px py : Int) (x y : TB) : Int := cmpI (farI px py x.f2 x.f3) (farI px py y.f2 y.f3)
theorem farC_law (px py : Int) : CmpLaw (farC px py) := by
  constructor
  · intro x y
    have a := cmpI_cases (farI px py x.f2 x.f3) (farI px py y.f2 y.f3)
    have b := cmpI_cases (farI px py y.f2 y.f3) (farI px py x.f2 x.f3)
    unfold farC
    omega
  · intro x y z
    have a := cmpI_cases (farI px py x.f2 x.f3) (farI px py y.f2 y.f3)
    have b := cmpI_cases (farI px py y.f2 y.f3) (farI px py z.f2 z.f3)
    have c := cmpI_cases (farI px py x.f2 x.f3) (farI px py z.f2 z.f3)
    unfold farC
    omega
/-- What Near leaves: the names of L, by the names, then by how far. -/
def NearPost (px py : Int) (w : World) (L : List TB) (e : Ending) (w' : World) : Prop := ∃ v L1 L', e = .returned v ∧ Below w.heap.size w w' ∧ IRow w' w.heap.size v (L'.map (·.f0)) ∧ Told (fun x y => cmpID x.f0 y.f0) L L1 ∧ Told (farC px py) L1 L'
theorem near_boxes (w : World) (qa qn px py d : Int) : NBox (((((w.alloc (.cells #[.int .i64 qa, .int .i64 qn] 23)).alloc (.cells #[.int .i64 px] 3)).alloc (.cells #[.int .i64 py] 3)).alloc (.cells #[.int .i64 d] 3)).alloc (.cells #[.func (.func 43) #[] #[.pointer (some ⟨w.heap.size + 1, 0, none⟩), .pointer (some ⟨w.heap.size + 1 + 1, 0, none⟩)]] 75)) (w.heap.size + 1 + 1 + 1 + 1) (w.heap.size + 1 + 1 + 1) px py d (w.heap.size + 1) (w.heap.size + 1 + 1) := by
  have a1 := Boxed.new (w.alloc (.cells #[.int .i64 qa, .int .i64 qn] 23)) 3 (.int .i64 px)
  have a2 := Boxed.new ((w.alloc (.cells #[.int .i64 qa, .int .i64 qn] 23)).alloc (.cells #[.int .i64 px] 3)) 3 (.int .i64 py)
  have a3 := Boxed.new (((w.alloc (.cells #[.int .i64 qa, .int .i64 qn] 23)).alloc (.cells #[.int .i64 px] 3)).alloc (.cells #[.int .i64 py] 3)) 3 (.int .i64 d)
  have a4 := Boxed.new ((((w.alloc (.cells #[.int .i64 qa, .int .i64 qn] 23)).alloc (.cells #[.int .i64 px] 3)).alloc (.cells #[.int .i64 py] 3)).alloc (.cells #[.int .i64 d] 3)) 75 (.func (.func 43) #[] #[.pointer (some ⟨w.heap.size + 1, 0, none⟩), .pointer (some ⟨w.heap.size + 1 + 1, 0, none⟩)])
  simp only [World.size_alloc] at a1 a2 a3 a4
  exact ⟨a4, a3.alloc _, ((a1.alloc _).alloc _).alloc _, (a2.alloc _).alloc _⟩
theorem NBox.grown {W W' : World} {fb db : Nat} {px py d : Int} {Bx By : Nat} (h : NBox W fb db px py d Bx By) {blk : Nat} (hg : W.grownBy W' (some blk)) (h1 : fb < blk) (h2 : db < blk) (h3 : Bx < blk) (h4 : By < blk) : NBox W' fb db px py d Bx By :=
  ⟨h.f.kept hg (by simp; omega), h.d.kept hg (by simp; omega), h.x.kept hg (by simp; omega), h.y.kept hg (by simp; omega)⟩
theorem ARow.own_ge {w : World} {base : Nat} {v : Value} {L : List TB} (h : ARow w base v L) : ∀ k, v.ownBlock = some k → base ≤ k := by
  rcases h with ⟨rfl, _⟩ | ⟨g, cap, h0, rfl, h2, _⟩
  · intro k e; cases e
  · intro k e; cases e; exact h2
set_option maxRecDepth 100000 in
set_option maxHeartbeats 1600000 in
theorem near_x (w : World) {base : Nat} {p : Option Addr} {L : List TB} (h : Holds w base p L) (hlen : L.length < 1000) (qa qn px py d : Int) :
    Calls Try.prog 24 #[.pointer p, .agg #[.int .i64 qa, .int .i64 qn], .int .i64 px, .int .i64 py, .int .i64 d] w (NearPost px py w (fnd qa qn (fun b => decide (farI px py b.f2 b.f3 ≤ d)) L)) := by
  have hbx : Below w.heap.size w (((((w.alloc (.cells #[.int .i64 qa, .int .i64 qn] 23)).alloc (.cells #[.int .i64 px] 3)).alloc (.cells #[.int .i64 py] 3)).alloc (.cells #[.int .i64 d] 3)).alloc (.cells #[.func (.func 43) #[] #[.pointer (some ⟨w.heap.size + 1, 0, none⟩), .pointer (some ⟨w.heap.size + 1 + 1, 0, none⟩)]] 75)) := by repeat (first | exact Below.refl _ _ | apply below_alloc)
  have hNB := near_boxes w qa qn px py d
  have hf := found_x (((((w.alloc (.cells #[.int .i64 qa, .int .i64 qn] 23)).alloc (.cells #[.int .i64 px] 3)).alloc (.cells #[.int .i64 py] 3)).alloc (.cells #[.int .i64 d] 3)).alloc (.cells #[.func (.func 43) #[] #[.pointer (some ⟨w.heap.size + 1, 0, none⟩), .pointer (some ⟨w.heap.size + 1 + 1, 0, none⟩)]] 75)) (h.below hbx) hlen qa qn 45 #[.pointer (some ⟨w.heap.size + 1 + 1 + 1 + 1, 0, none⟩), .pointer (some ⟨w.heap.size + 1 + 1 + 1, 0, none⟩)] (fun b => decide (farI px py b.f2 b.f3 ≤ d)) enters_near2 (fun x W hb => near2_x W x _ _ _ _ px py d _ (hNB.kept hb) (far_f px py x.f2 x.f3))
  have hl := fnd_len qa qn (fun b => decide (farI px py b.f2 b.f3 ≤ d)) L
  have hsz : (((((w.alloc (.cells #[.int .i64 qa, .int .i64 qn] 23)).alloc (.cells #[.int .i64 px] 3)).alloc (.cells #[.int .i64 py] 3)).alloc (.cells #[.int .i64 d] 3)).alloc (.cells #[.func (.func 43) #[] #[.pointer (some ⟨w.heap.size + 1, 0, none⟩), .pointer (some ⟨w.heap.size + 1 + 1, 0, none⟩)]] 75)).heap.size = w.heap.size + 5 := by simp
  go_enter Try.func24, Try.ntmps24
  have HNB := Aside0.mk hNB
  have HSZ := Aside0.mk hsz
  clear hNB hsz
  go_wp2_with fail
  (with_reducible refine hf.mono ?_)
  rintro e w1 ⟨v, L1, rfl, hb1, hA, hT⟩
  have hN1 := HNB.out.kept hb1
  have hso := sorts_x w1 _ v L1 47 #[.pointer (some ⟨w.heap.size + 1 + 1 + 1 + 1, 0, none⟩)] (farC px py) (farC_law px py) enters_near3 (fun blk hblk => fun W x y hg => near3_x W x y _ _ _ _ px py d (hN1.grown hg (by have := HSZ.out; omega) (by have := HSZ.out; omega) (by have := HSZ.out; omega) (by have := HSZ.out; omega))) hA (by rw [hT.length]; omega)
  have HA := Aside0.mk hA
  have HT := Aside0.mk hT
  have HN1 := Aside0.mk hN1
  have HB1 : Aside0 (Below w.heap.size w w1) := Aside0.mk (hbx.trans (hb1.mono (by have := HSZ.out; omega)))
  have HSL : Aside0 ((((((w.alloc (.cells #[.int .i64 qa, .int .i64 qn] 23)).alloc (.cells #[.int .i64 px] 3)).alloc (.cells #[.int .i64 py] 3)).alloc (.cells #[.int .i64 d] 3)).alloc (.cells #[.func (.func 43) #[] #[.pointer (some ⟨w.heap.size + 1, 0, none⟩), .pointer (some ⟨w.heap.size + 1 + 1, 0, none⟩)]] 75)).heap.size ≤ w1.heap.size) := Aside0.mk hb1.size
  clear hA hT hN1 hf hb1 hbx
  go_wp2_with fail
  (with_reducible refine hso.mono ?_)
  rintro e w2 ⟨rfl, L2, hT2, hA2, hg2⟩
  have hn := names_x w2 _ v L2 hA2 (by rw [hT2.length, HT.out.length]; omega)
  have HB2 : Aside0 (Below w.heap.size w w2) := Aside0.mk (HB1.out.grown hg2 HB1.out.size (fun k e => by have := HA.out.own_ge k e; have := HSZ.out; omega))
  have HT2 := Aside0.mk hT2
  clear hso hT2 hA2 hg2
  go_wp2_with fail
  (with_reducible refine hn.mono ?_)
  rintro e w3 ⟨v', rfl, hI, hb3⟩
  go_wp2
  go_ret
  exact ⟨v', L1, L2, rfl, HB2.out.trans (hb3.mono HB2.out.size), Kd.R_lower hI HB2.out.size, HT.out, HT2.out⟩
end Go.Proofs.Ythcgiacjmfmamaa.PA

namespace Go.Proofs.Ythcgiacjmfmamaa.PA
set_option linter.unusedVariables false
set_option linter.unusedSimpArgs false
open Go.RowKit Go.Shelf Go.Proofs.YthcgiacjmfmamaaW.PrintWords
theorem sto_new (w : World) : Calls Try.prog 34 #[] w fun e w' => ∃ b, e = .returned (.pointer (some ⟨b, 0, none⟩)) ∧ Below w.heap.size w w' ∧ Sto w' w.heap.size b (fun _ => []) := by
  refine (new_x w).mono ?_
  rintro e w' ⟨b, he, hb, mb, ow, hR⟩
  refine ⟨b, he, hb, ⟨⟨mb, _, _, ow, (hR.congr (I' := idsOf fun _ => []) (C' := colsOf fun _ => []) (fun _ _ => rfl) (fun o _ _ => by unfold colsOf; split <;> rfl)), ?_⟩, ?_⟩⟩
  · exact ⟨fun m r x _ h => by simp at h, fun id p h => by cases h⟩
  · intro m x _ h; cases h
/-- A block that is none of the store's has turned. -/
theorem Sto.grown {w w' : World} {base b : Nat} {T : Nat → List TB} (h : Sto w base b T) {row : Option Nat} (hg : w.grownBy w' row) (hr : ∀ g, row = some g → ∃ cs t, w.heap[g]? = some (.cells cs t (0, 0)) ∧ t ≠ 48 ∧ t ≠ 3 ∧ t ≠ 87) : Sto w' base b T := by
  obtain ⟨⟨mb, sv, f, ow, hR, hl⟩, hk⟩ := h
  cases row with
  | none => exact ⟨⟨mb, sv, f, ow, hR.step (fun k hk _ => hg.block k hk (by simp)), hl⟩, hk⟩
  | some g =>
    obtain ⟨cs, t, hc, t1, t2, t3⟩ := hr g rfl
    obtain ⟨n1, n2, n3⟩ := hR.far hc t1 t2 t3
    have hR' : Rep w base b mb sv (idsOf T) (colsOf T) f (toL T).length (upd ow g 300) :=
      ⟨hR.blk, hR.bb, hR.bm, hR.ids, hR.cols, fun o k ho e => by rw [upd_other _ (fun e2 => n3 o ho (by rw [e, e2]))]; exact hR.own o k ho e,
        by rw [upd_other _ (Ne.symm n1)]; exact hR.owb, by rw [upd_other _ (Ne.symm n2)]; exact hR.owm, hR.map⟩
    refine ⟨⟨mb, sv, f, _, hR'.step (fun k hk how => hg.block k hk (fun e => ?_)), hl⟩, hk⟩
    rw [Option.some.injEq] at e
    rw [e, upd_same] at how
    omega
def idEq (x y : TID) : Bool := x.f0 == y.f0 && (x.f1 == y.f1 && x.f2 == y.f2)
theorem idEq_iff {x y : TID} : idEq x y = true ↔ x = y := by
  cases x; cases y
  simp [idEq]
/-- What Put has happen. -/
def madeStep (acc : List TB) (x : TB) : List TB := if (chk x == 0 && !(acc.any fun y => idEq y.f0 x.f0)) = true then acc ++ [x] else acc
def madeL (l : List TB) : List TB := l.foldl madeStep []
theorem madeL_snoc (l : List TB) (i : Nat) (h : i < l.length) : madeL (l.take (i + 1)) = madeStep (madeL (l.take i)) l[i] := by
  unfold madeL
  rw [List.take_succ_eq_append_getElem h, List.foldl_append]
  rfl
theorem madeStep_len (acc : List TB) (x : TB) : (madeStep acc x).length ≤ acc.length + 1 := by
  unfold madeStep
  split <;> simp
theorem foldl_len (l acc : List TB) : (l.foldl madeStep acc).length ≤ acc.length + l.length := by
  induction l generalizing acc with
  | nil => simp
  | cons x l ih =>
    have := ih (madeStep acc x)
    have h2 := madeStep_len acc x
    simp only [List.foldl_cons, List.length_cons]
    omega
theorem madeL_len (l : List TB) : (madeL l).length ≤ l.length := by
  have := foldl_len l []
  simpa [madeL] using this
/-- made's own memory between two rounds. -/
structure MInv (w wr : World) (b : Nat) (T : Nat → List TB) (v : Value) (acc : List TB) : Prop where
  sto : Sto wr w.heap.size b T
  row : wr.ownsRow w.heap.size 51 11 v acc.length (bunCells acc)
  nil : acc = [] → v = .slice none 0 0
  below : Below w.heap.size w wr
  perm : (toL T).Perm acc
theorem inT_any {T : Nat → List TB} {acc : List TB} (hp : (toL T).Perm acc) (id : TID) : inT T id ↔ (acc.any fun y => idEq y.f0 id) = true := by
  rw [List.any_eq_true]
  constructor
  · rintro ⟨x, hx, rfl⟩
    exact ⟨x, hp.mem_iff.1 hx, idEq_iff.2 rfl⟩
  · rintro ⟨x, hx, e⟩
    exact ⟨x, hp.mem_iff.2 hx, idEq_iff.1 e⟩
theorem MInv.row_kept {w wr w1 : World} {b : Nat} {T : Nat → List TB} {v : Value} {acc : List TB} (h : MInv w wr b T v acc) (hK : Keeps w.heap.size wr w1) : w1.ownsRow w.heap.size 51 11 v acc.length (bunCells acc) :=
  own_step h.row (fun k hk => by
    obtain ⟨cells, hc⟩ := own_typed h.row k hk
    rw [hc]
    exact hK.kept k _ hc rfl)
theorem below_keeps {w wr w1 : World} (h : Below w.heap.size w wr) (hK : Keeps w.heap.size wr w1) : Below w.heap.size w w1 :=
  ⟨hK.below.os.trans h.os, hK.below.tape.trans h.tape, hK.below.output.trans h.output, Nat.le_trans h.size hK.below.size, fun k hk => (hK.below.block k hk).trans (h.block k hk)⟩
theorem MInv.refused {w wr w1 : World} {b : Nat} {T : Nat → List TB} {v : Value} {acc : List TB} (h : MInv w wr b T v acc) (hK : Keeps w.heap.size wr w1) (hS : Sto w1 w.heap.size b T) {x : TB} (hc : chk x ≠ 0 ∨ inT T x.f0) : MInv w w1 b T v (madeStep acc x) := by
  have e : madeStep acc x = acc := by
    unfold madeStep
    rw [if_neg]
    rcases hc with hc | hc
    · simp [hc]
    · simp [(inT_any h.perm x.f0).1 hc]
  rw [e]
  exact ⟨hS, h.row_kept hK, h.nil, below_keeps h.below hK, h.perm⟩
theorem MInv.taken {w wr w1 w2 : World} {b : Nat} {T : Nat → List TB} {v v' : Value} {acc : List TB} {x : TB} (h : MInv w wr b T v acc) (hK : Keeps w.heap.size wr w1) (hS : Sto w1 w.heap.size b (addT T x)) (hc : chk x = 0) (hn : ¬ inT T x.f0) (hm : x.f1.toNat < 32)
    {o : Obj} (hg : (w1.alloc o).grownBy w2 v.ownBlock) (hown : w2.ownsRow w.heap.size 51 11 v' (acc.length + 1) (bunCells acc ++ bunCells [x])) : MInv w w2 b (addT T x) v' (madeStep acc x) := by
  have e : madeStep acc x = acc ++ [x] := by
    unfold madeStep
    rw [if_pos]
    have : (acc.any fun y => idEq y.f0 x.f0) = false := by
      cases hb : (acc.any fun y => idEq y.f0 x.f0) with
      | false => rfl
      | true => exact absurd ((inT_any h.perm x.f0).2 hb) hn
    rw [this, hc]; rfl
  have hrow1 := h.row_kept hK
  rw [e]
  refine ⟨(hS.below (below_alloc (Below.refl _ _) o)).grown hg (fun g hgv => ?_), by rw [List.length_append, bunCells_append]; exact hown, fun h0 => by simp at h0, ?_, ?_⟩
  · obtain ⟨cells, hcc⟩ := own_typed hrow1 g hgv
    exact ⟨cells, _, (heap_old _ _ _ (blk_lt hcc)).trans hcc, by decide, by decide, by decide⟩
  · have hb1 := below_keeps h.below hK
    exact (hb1.alloc hb1.size o).grown hg (by have := hb1.size; simp; omega) (own_base hrow1)
  · exact ((toL_add T x hm).trans ((List.Perm.cons x h.perm))).trans (by
      have := List.perm_append_comm (l₁ := [x]) (l₂ := acc)
      exact this)
/-- The cells of l's i-th, wherever what lay lies. -/
theorem cells_of {w wr : World} (hb : Below w.heap.size w wr) {A : Option Addr} {l : List TB} (hC : Kd.C k51 w A l.length l) (i : Nat) (h : i < l.length) : ∃ ad, A = some ad ∧ wr.cell? (ad.add (i * 11)) = some (.int .i64 l[i].f0.f0) ∧ wr.cell? ⟨(ad.add (i * 11)).block, (ad.add (i * 11)).off + 1, none⟩ = some (.int .i64 l[i].f0.f1) ∧ wr.cell? ⟨(ad.add (i * 11)).block, (ad.add (i * 11)).off + 2, none⟩ = some (.int .i64 l[i].f0.f2) ∧ wr.cell? ⟨(ad.add (i * 11)).block, (ad.add (i * 11)).off + 3, none⟩ = some (.int .i64 l[i].f1) ∧ wr.cell? ⟨(ad.add (i * 11)).block, (ad.add (i * 11)).off + 4, none⟩ = some (.int .i64 l[i].f2) ∧ wr.cell? ⟨(ad.add (i * 11)).block, (ad.add (i * 11)).off + 5, none⟩ = some (.int .i64 l[i].f3) ∧ wr.cell? ⟨(ad.add (i * 11)).block, (ad.add (i * 11)).off + 6, none⟩ = some (.int .i64 l[i].f4) ∧ wr.cell? ⟨(ad.add (i * 11)).block, (ad.add (i * 11)).off + 7, none⟩ = some (.int .i64 l[i].f5) ∧ wr.cell? ⟨(ad.add (i * 11)).block, (ad.add (i * 11)).off + 8, none⟩ = some (.int .i64 l[i].f6) ∧ wr.cell? ⟨(ad.add (i * 11)).block, (ad.add (i * 11)).off + 9, none⟩ = some (.int .i64 l[i].f7) ∧ wr.cell? ⟨(ad.add (i * 11)).block, (ad.add (i * 11)).off + 10, none⟩ = some (.int .i64 l[i].f8) := by
  obtain ⟨ad, e, x0, x1, x2, x3, x4, x5, x6, x7, x8, x9, x10⟩ := at_T51 hC (i : Int) (by omega) (by omega)
  have hr : rd_T51 l (i : Int) = l[i] := by
    unfold rd_T51
    rw [Int.toNat_natCast, List.getD_eq_getElem?_getD, List.getElem?_eq_getElem h]; rfl
  rw [hr, Int.toNat_natCast] at x0 x1 x2 x3 x4 x5 x6 x7 x8 x9 x10
  exact ⟨ad, e, (hb.cell (World.block_lt_of_cell? w _ x0)).trans x0, (hb.cell (World.block_lt_of_cell? w _ x1)).trans x1, (hb.cell (World.block_lt_of_cell? w _ x2)).trans x2, (hb.cell (World.block_lt_of_cell? w _ x3)).trans x3, (hb.cell (World.block_lt_of_cell? w _ x4)).trans x4, (hb.cell (World.block_lt_of_cell? w _ x5)).trans x5, (hb.cell (World.block_lt_of_cell? w _ x6)).trans x6, (hb.cell (World.block_lt_of_cell? w _ x7)).trans x7, (hb.cell (World.block_lt_of_cell? w _ x8)).trans x8, (hb.cell (World.block_lt_of_cell? w _ x9)).trans x9, (hb.cell (World.block_lt_of_cell? w _ x10)).trans x10⟩
/-- What made leaves. -/
def MadePost (w : World) (l : List TB) (e : Ending) (w' : World) : Prop := ∃ b T v, e = .returned (.tuple #[.pointer (some ⟨b, 0, none⟩), v]) ∧ MInv w w' b T v (madeL (l.take 60))
set_option maxRecDepth 100000 in
set_option maxHeartbeats 4000000 in
theorem made_x (w : World) (A : Option Addr) (c : Nat) (l : List TB) (hC : Kd.C k51 w A l.length l) :
    Calls Try.prog 19 #[.slice A l.length c] w (MadePost w l) := by
  obtain ⟨i0, hi, hz0, hz1, hz2⟩ := info_parts info51
  have hmax := hC.2.1
  have HC := Aside0.mk hC
  clear hC
  go_enter Try.func19, Try.ntmps19
  go_wp2_with fail
  refine (sto_new w).mono ?_
  rintro e w1 ⟨b, rfl, hb1, hS1⟩
  have HM : Aside0 (MInv w w1 b (fun _ => []) (.slice none 0 0) []) := Aside0.mk ⟨hS1, World.ownsRow_nil _ _ _ _, fun _ => rfl, hb1, List.Perm.refl _⟩
  clear hb1 hS1
  go_wp2
  go_loopw [5, 6] (fun v5 v6 wr => ∃ (i : Nat) (T : Nat → List TB), v6 = .int .i64 i ∧ i ≤ 60 ∧ i ≤ l.length ∧ Aside0 (MInv w wr b T v5 (madeL (l.take i)))) (fun v5 v6 _ => 60 - (intOf v6).toNat)
  case atStart => exact ⟨0, fun _ => [], rfl, by omega, by omega, HM⟩
  case round =>
    clear HM
    obtain ⟨i, T, rfl, hi60, hil, HM⟩ := hrel
    by_cases hlt : i < l.length
    · by_cases hlt2 : i < 60
      · have g2 : (i : Int) < 60 := by omega
        have hco := cells_of HM.out.below HC.out i hlt
        have hsn := madeL_snoc l i hlt
        obtain ⟨x, hx⟩ : ∃ x, x = l[i] := ⟨_, rfl⟩
        rw [← hx] at hco hsn
        have HSN := Aside0.mk hsn
        have hacc : (madeL (l.take i)).length ≤ i := Nat.le_trans (madeL_len _) (by rw [List.length_take]; omega)
        have hco2 : ∀ w1 : World, Below w.heap.size w w1 → ∃ ad, A = some ad ∧ w1.cell? (ad.add (i * 11)) = some (.int .i64 x.f0.f0) ∧ w1.cell? ⟨(ad.add (i * 11)).block, (ad.add (i * 11)).off + 1, none⟩ = some (.int .i64 x.f0.f1) ∧ w1.cell? ⟨(ad.add (i * 11)).block, (ad.add (i * 11)).off + 2, none⟩ = some (.int .i64 x.f0.f2) ∧ w1.cell? ⟨(ad.add (i * 11)).block, (ad.add (i * 11)).off + 3, none⟩ = some (.int .i64 x.f1) ∧ w1.cell? ⟨(ad.add (i * 11)).block, (ad.add (i * 11)).off + 4, none⟩ = some (.int .i64 x.f2) ∧ w1.cell? ⟨(ad.add (i * 11)).block, (ad.add (i * 11)).off + 5, none⟩ = some (.int .i64 x.f3) ∧ w1.cell? ⟨(ad.add (i * 11)).block, (ad.add (i * 11)).off + 6, none⟩ = some (.int .i64 x.f4) ∧ w1.cell? ⟨(ad.add (i * 11)).block, (ad.add (i * 11)).off + 7, none⟩ = some (.int .i64 x.f5) ∧ w1.cell? ⟨(ad.add (i * 11)).block, (ad.add (i * 11)).off + 8, none⟩ = some (.int .i64 x.f6) ∧ w1.cell? ⟨(ad.add (i * 11)).block, (ad.add (i * 11)).off + 9, none⟩ = some (.int .i64 x.f7) ∧ w1.cell? ⟨(ad.add (i * 11)).block, (ad.add (i * 11)).off + 10, none⟩ = some (.int .i64 x.f8) := fun w1 hb => by
          rw [hx]; exact cells_of hb HC.out i hlt
        have HCO := Aside0.mk hco2
        obtain ⟨ad, rfl, x0, x1, x2, x3, x4, x5, x6, x7, x8, x9, x10⟩ := hco
        have hput := put_x wr HM.out.sto HM.out.below.size x (by rw [HM.out.perm.length_eq]; omega)
        clear hsn hx hco2
        go_wp2_with fail
        (with_reducible refine hput.mono ?_)
        clear hput x0 x1 x2 x3 x4 x5 x6 x7 x8 x9 x10
        rintro e w2 ⟨r, rfl, hK, (⟨rfl, hc, hni, hS2⟩ | ⟨hr0, hci, hS2⟩)⟩
        · have hb2 := below_keeps HM.out.below hK
          obtain ⟨ad', hade, x0, x1, x2, x3, x4, x5, x6, x7, x8, x9, x10⟩ := HCO.out w2 hb2
          cases hade
          have hrow := HM.out.row_kept hK
          have HC0 := Aside0.mk hc
          have HNI := Aside0.mk hni
          have HK := Aside0.mk hK
          have HS2 := Aside0.mk hS2
          have hs2 := hb2.size
          have HB2 := Aside0.mk hb2
          clear hc hni hK hS2 hb2
          go_wp2_with (at_builtin; go_loud (refine wpList_append_own _ rfl _ _ 29 rfl w.heap.size 51 i0 _ 11 88 Try.underlying29 hi hz0 hz1 hz2 rfl (by decide) _ _ _ rfl (hrow.alloc _) ⟨w2.heap.size, 0, none⟩ 1 1 (bunCells [x]) rfl (bunCells_length [x]) (new_cells _ (cellsB x) _) (bunCells_one [x]) (by unfold maxLen; omega) (by omega) (by simp; omega) ?_; intro v' w3 hown' hgrow _))
          go_roundw
          case rel => exact ⟨i + 1, addT T x, by go_num, by omega, hlt, ⟨by rw [HSN.out]; exact HM.out.taken HK.out HS2.out HC0.out HNI.out (by have := ((check_f x).2 HC0.out).1; omega) hgrow hown'⟩⟩
          case measure => simp [intOf]; omega
        · have hrb : (r == 0) = false := by simpa using hr0
          have HCI := Aside0.mk hci
          have HK := Aside0.mk hK
          have HS2 := Aside0.mk hS2
          clear hci hK hS2 hr0
          go_wp2
          go_roundw
          case rel => exact ⟨i + 1, T, by go_num, by omega, hlt, ⟨by rw [HSN.out]; exact HM.out.refused HK.out HS2.out HCI.out⟩⟩
          case measure => simp [intOf]; omega
      · obtain rfl : i = 60 := by omega
        have g2 : ¬ ((60 : Nat) : Int) < 60 := by omega
        have g3 : ((60 : Nat) : Int) < (l.length : Int) := by omega
        go_wp2
        go_ret2
        exact ⟨b, T, u5, rfl, HM.out⟩
    · have e60 : madeL (l.take 60) = madeL (l.take i) := by
        rw [List.take_of_length_le (by omega), List.take_of_length_le (by omega)]
      have HE := Aside0.mk e60
      have g2 : ¬ (i : Int) < (l.length : Int) := by omega
      clear e60
      go_wp2
      go_ret2
      exact ⟨b, T, u5, rfl, by rw [HE.out]; exact HM.out⟩
end Go.Proofs.Ythcgiacjmfmamaa.PA

namespace Go.Proofs.Ythcgiacjmfmamaa.PA
set_option linter.unusedVariables false
set_option linter.unusedSimpArgs false
theorem uniq {r : TB → TB → Prop} (asym : ∀ x y, r x y → r y x → False) : ∀ {l1 l2 : List TB}, l1.Perm l2 → l1.Pairwise r → l2.Pairwise r → l1 = l2 := by
  intro l1
  induction l1 with
  | nil => intro l2 hp _ _; exact (List.Perm.nil_eq hp)
  | cons a l1 ih =>
    intro l2 hp h1 h2
    cases l2 with
    | nil => exact absurd hp.length_eq (by simp)
    | cons b l2 =>
      obtain ⟨a1, a2⟩ := List.pairwise_cons.1 h1
      obtain ⟨b1, b2⟩ := List.pairwise_cons.1 h2
      by_cases e : a = b
      · subst e
        rw [ih ((List.perm_cons a).1 hp) a2 b2]
      · exfalso
        have m1 : a ∈ l2 := by
          have : a ∈ b :: l2 := hp.mem_iff.1 List.mem_cons_self
          rcases List.mem_cons.1 this with h | h
          · exact absurd h e
          · exact h
        have m2 : b ∈ l1 := by
          have : b ∈ a :: l1 := hp.mem_iff.2 List.mem_cons_self
          rcases List.mem_cons.1 this with h | h
          · exact absurd h.symm e
          · exact h
        exact asym a b (a1 b m2) (b1 a m1)
theorem getD_map_range (L : List TB) : (List.range' 0 L.length).map (fun i => L.getD i z0) = L := by
  apply List.ext_getElem
  · simp
  · intro i h1 h2
    simp [List.getD_eq_getElem?_getD, List.getElem?_eq_getElem h2]
theorem Told.perm {cf : TB → TB → Int} {L L' : List TB} (h : Told cf L L') : L'.Perm L := by
  obtain ⟨D, hP, _, rfl⟩ := h
  have h1 := hP.perm.map (fun i => L.getD i z0)
  unfold seg at h1
  rw [List.map_map, List.map_map, Nat.sub_zero] at h1
  have e : (List.range' 0 L.length).map ((fun i => L.getD i z0) ∘ id) = L := getD_map_range L
  rw [e] at h1
  rw [List.range_eq_range']
  exact h1
theorem Told.order {cf : TB → TB → Int} {L L' : List TB} (h : Told cf L L') {r0 : TB → TB → Prop} (h0 : L.Pairwise r0) : L'.Pairwise (fun x y => cf x y < 0 ∨ (cf x y = 0 ∧ r0 x y)) := by
  obtain ⟨D, hP, hS, rfl⟩ := h
  rw [List.pairwise_iff_getElem]
  intro i j hi hj hij
  have hi' : i < L.length := by simpa using hi
  have hj' : j < L.length := by simpa using hj
  have hl := hS i j (Nat.zero_le _) hij hj'
  simp only [List.getElem_map, List.getElem_range]
  unfold less at hl
  rcases hl with hl | ⟨hl, hlt⟩
  · exact .inl hl
  · refine .inr ⟨hl, ?_⟩
    obtain ⟨q, _, q2, e⟩ := hP.mem (i := j) (Nat.zero_le _) hj'
    have e' : D j < L.length := by rw [e]; exact q2
    have g := List.pairwise_iff_getElem.1 h0 (D i) (D j) (by omega) e' hlt
    rw [List.getD_eq_getElem?_getD, List.getElem?_eq_getElem (show D i < L.length by omega), List.getD_eq_getElem?_getD, List.getElem?_eq_getElem e']
    exact g
/-- No two of one name. -/
def Dist (L : List TB) : Prop := L.Pairwise fun x y => x.f0 ≠ y.f0
theorem Dist.perm {L M : List TB} (h : Dist L) (p : M.Perm L) : Dist M := (p.pairwise_iff (fun h => fun e => h e.symm)).2 h
/-- By rising names. -/
def bID (x y : TB) : Prop := cmpID x.f0 y.f0 < 0
theorem bID_asym (x y : TB) (h : bID x y) (h' : bID y x) : False := by
  have := cmpID_law.anti x y
  unfold bID at *
  omega
theorem Told.ids {L L' : List TB} (h : Told (fun x y => cmpID x.f0 y.f0) L L') (hd : Dist L) : L'.Pairwise bID := by
  have h1 := h.order hd
  refine h1.imp ?_
  intro x y hxy
  rcases hxy with hxy | ⟨hxy, hne⟩
  · exact hxy
  · exact absurd (cmpID_zero hxy) hne
/-- The nearest first; of those that lie equally far by rising names. -/
def bFar (px py : Int) (x y : TB) : Prop := farC px py x y < 0 ∨ (farC px py x y = 0 ∧ bID x y)
theorem bFar_asym (px py : Int) (x y : TB) (h : bFar px py x y) (h' : bFar px py y x) : False := by
  have a1 := (farC_law px py).anti x y
  have a2 := (farC_law px py).anti y x
  have b := bID_asym x y
  unfold bFar at *
  rcases h with h | ⟨h, h2⟩
  · rcases h' with h' | ⟨h', _⟩ <;> omega
  · rcases h' with h' | ⟨_, h3⟩
    · omega
    · exact b h2 h3
theorem told_one {L M L' M' : List TB} (hp : L.Perm M) (hd : Dist M) (hL : Told (fun x y => cmpID x.f0 y.f0) L L') (hM : M'.Perm M) (hS : M'.Pairwise bID) : L' = M' :=
  uniq bID_asym ((hL.perm.trans hp).trans hM.symm) (hL.ids (hd.perm hp)) hS
theorem near_one {px py : Int} {L M L1 L' M' : List TB} (hp : L.Perm M) (hd : Dist M) (hL : Told (fun x y => cmpID x.f0 y.f0) L L1) (hF : Told (farC px py) L1 L') (hM : M'.Perm M) (hS : M'.Pairwise (bFar px py)) : L' = M' :=
  uniq (bFar_asym px py) (((hF.perm.trans hL.perm).trans hp).trans hM.symm) (hF.order (hL.ids (hd.perm hp))) hS
theorem madeStep_dist {acc : List TB} (h : Dist acc) (x : TB) : Dist (madeStep acc x) := by
  unfold madeStep
  split
  · rename_i hc
    unfold Dist
    rw [List.pairwise_append]
    refine ⟨h, List.pairwise_singleton _ _, fun a ha b hb => ?_⟩
    rw [List.mem_singleton.1 hb]
    intro e
    rw [Bool.and_eq_true, Bool.not_eq_true', List.any_eq_false] at hc
    exact hc.2 a ha (idEq_iff.2 e)
  · exact h
theorem foldl_dist (l acc : List TB) (h : Dist acc) : Dist (l.foldl madeStep acc) := by
  induction l generalizing acc with
  | nil => exact h
  | cons x l ih => exact ih _ (madeStep_dist h x)
theorem madeL_dist (l : List TB) : Dist (madeL l) := foldl_dist l [] List.Pairwise.nil
theorem fnd_perm {L M : List TB} (h : L.Perm M) (qa qn : Int) (hb : TB → Bool) : (fnd qa qn hb L).Perm (fnd qa qn hb M) := h.filter _
theorem fnd_dist {L : List TB} (h : Dist L) (qa qn : Int) (hb : TB → Bool) : Dist (fnd qa qn hb L) := List.Pairwise.filter _ h
end Go.Proofs.Ythcgiacjmfmamaa.PA
