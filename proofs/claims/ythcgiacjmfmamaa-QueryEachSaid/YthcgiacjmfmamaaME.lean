/-
  query.Each: what it yields; the laws' helper all.
-/
import Derived.Test.YthcgiacjmfmamaaML
import Derived.RangeFuncNested
import Derived.RangeFuncBound
import Derived.RangeFuncCalls
import Derived.RangeFuncLeaves
import Derived.LoopIn
import Derived.Maps.OwnIn
namespace Go.Proofs.Ythcgiacjmfmamaa.PA
set_option linter.unusedVariables false
set_option linter.unusedSimpArgs false
open Go.RowKit Go.Shelf Go.Proofs.YthcgiacjmfmamaaW.PrintWords
attribute [local go_sem] Oper.semAt_some
/-- What a round may do: turn blocks that are its own (Own); a block of cells that is none of these stays, and stays none. -/
def KpO (Own : World → Nat → Prop) (W W' : World) : Prop := W.heap.size ≤ W'.heap.size ∧ ∀ (k : Nat) (o : Obj), W.heap[k]? = some o → o.isCells = true → ¬ Own W k → W'.heap[k]? = some o ∧ ¬ Own W' k
theorem KpO.trans {Own : World → Nat → Prop} {A B C : World} (h : KpO Own A B) (k : KpO Own B C) : KpO Own A C := by
  refine ⟨Nat.le_trans h.1 k.1, fun j o hj hc hn => ?_⟩
  obtain ⟨h1, h2⟩ := h.2 j o hj hc hn
  exact k.2 j o h1 hc h2
/-- A row of bundles that stands apart from what a round may turn. -/
def AOwn (Own : World → Nat → Prop) (W : World) (v : Value) (L : List TB) : Prop := ∃ base, ARow W base v L ∧ ∀ k, v.ownBlock = some k → ¬ Own W k
theorem AOwn.kept {Own : World → Nat → Prop} {W W' : World} {v : Value} {L : List TB} (h : AOwn Own W v L) (hk : KpO Own W W') : AOwn Own W' v L := by
  obtain ⟨base, hA, hn⟩ := h
  rcases hA with hA | ⟨g, cap, h0, rfl, h2, h3, h4⟩
  · exact ⟨base, .inl hA, fun k e => by rw [hA.1] at e; cases e⟩
  · obtain ⟨cur, hg, hc⟩ := h4
    obtain ⟨h5, h6⟩ := hk.2 g _ hg rfl (hn g rfl)
    exact ⟨base, .inr ⟨g, cap, h0, rfl, h2, h3, cur, h5, hc⟩, fun k e => by cases e; exact h6⟩
theorem AOwn.below {Own : World → Nat → Prop} {N : Nat} (hOst : ∀ A B : World, N ≤ A.heap.size → Below A.heap.size A B → ∀ k, k < A.heap.size → ¬ Own A k → ¬ Own B k) {W W' : World} {v : Value} {L : List TB} (h : AOwn Own W v L) (hN : N ≤ W.heap.size) (hb : Below W.heap.size W W') : AOwn Own W' v L := by
  obtain ⟨base, hA, hn⟩ := h
  refine ⟨base, hA.below hb, fun k e => hOst W W' hN hb k ?_ (hn k e)⟩
  rcases hA with ⟨e1, _⟩ | ⟨g, cap, h0, rfl, h2, h3, h4⟩
  · rw [e1] at e; cases e
  · cases e; exact h4.lt
theorem AOwn.reads {Own : World → Nat → Prop} {W : World} {A : Option Addr} {n c : Nat} {L : List TB} (h : AOwn Own W (.slice A n c) L) (hL : L.length < 1000000) : Kd.C k51 W A L.length L := by
  obtain ⟨base, hA, _⟩ := h
  obtain ⟨A', c', e, _, hC⟩ := hA.reads hL
  injection e with e1 e2 e3
  rw [e1]; exact hC
theorem take_next (L : List TB) (i : Nat) (h : i < L.length) : L.take (i + 1) = L.take i ++ [L[i]] := List.take_succ_eq_append_getElem h
set_option maxRecDepth 100000 in
set_option maxHeartbeats 4000000 in
theorem each1_in (F : Fence) (hF : F = Fence.wide) (n : Nat) (hn1 : 1 ≤ n) (l Bs Bq : Nat) (Own : World → Nat → Prop) 
    (W : World) (hOst : ∀ A B : World, W.heap.size ≤ A.heap.size → Below A.heap.size A B → ∀ k, k < A.heap.size → ¬ Own A k → ¬ Own B k) (hOnew : ∀ B : World, Below W.heap.size W B → ∀ k, W.heap.size ≤ k → ¬ Own B k) {base : Nat} {p : Option Addr} {L : List TB} (h : Holds W base p L) (hlen : L.length < 1000) (qa qn : Int) (hbs : Boxed W Bs 32 (.pointer p)) (hbq : W.heap[Bq]? = some (.cells #[.int .i64 qa, .int .i64 qn] 23 (0, 0)))
    (L1 : List TB) (hL1 : ∀ L', Told (fun x y => cmpID x.f0 y.f0) (fnd qa qn (fun _ => true) L) L' → L' = L1) (J Jx : List TB → World → Prop) (hJ : AbidesFrom W.heap.size J)
    (hY : ∀ pre (x : TB) W, J pre W → pre.length < L1.length → YieldAt F (n - 1) Try.prog l #[.agg #[.int .i64 x.f0.f0, .int .i64 x.f0.f1, .int .i64 x.f0.f2, .int .i64 x.f1, .int .i64 x.f2, .int .i64 x.f3, .int .i64 x.f4, .int .i64 x.f5, .int .i64 x.f6, .int .i64 x.f7, .int .i64 x.f8]] W fun e W' =>
      (e = .returned (.bool true) ∧ J (pre ++ [x]) W' ∧ KpO Own W W') ∨ (e = .returned (.bool false) ∧ Jx (pre ++ [x]) W')) (h0 : J [] W) :
    CallsIn F n Try.prog 58 #[.func (.yield l) #[] #[], .pointer (some ⟨Bs, 0, none⟩), .pointer (some ⟨Bq, 0, none⟩)] W fun e W' => (∃ v, e = .returned v) ∧
      ((∃ ys, ys = L1 ∧ J ys W') ∨ (∃ pre, pre <+: L1 ∧ Jx pre W')) := by
  have hro : F.round = none := by rw [hF]; rfl
  have hf1 : F.fn 58 := by rw [hF]; trivial
  have hf2 : F.fn 39 := by rw [hF]; trivial
  have HF := Aside0.mk hF
  clear hF
  have c0 := hbs.cell
  have q0 : W.cell? ⟨Bq, 0, none⟩ = some (.int .i64 qa) := (blk_cell hbq 0).trans rfl
  have q1 : W.cell? ⟨Bq, 1, none⟩ = some (.int .i64 qn) := (blk_cell hbq 1).trans rfl
  have hfo := wide_calls (n := n - 1) HF.out (found_x W h hlen qa qn 49 #[] (fun _ => true) enters_always (fun x W _ => always_ok x W))
  have HL1 := Aside0.mk hL1
  have HJ := Aside0.mk hJ
  have HY := Aside0.mk hY
  have HST := Aside0.mk hOst
  have hll := fnd_len qa qn (fun _ => true) L
  clear hL1 hJ hY hOst hbs hbq
  refine callsIn_of_wp Try.func58 rfl hf1 ?_ hro
  simp only [Try.ntmps58, List.size_toArray, List.length_cons, List.length_nil, Nat.reduceAdd, Nat.reduceSub, Array.replicate_succ, Array.replicate_zero, List.push_toArray, List.append_toArray, List.nil_append, List.cons_append]
  gi_wp2_with (gi_at_call 39; refine hfo.mono ?_; rintro e w1 ⟨v, L', rfl, hb1, hA, hT⟩; obtain ⟨A, c, rfl, hc, hCC⟩ := hA.reads (by rw [hT.length]; omega); clear hCC)
  have hLen := hT.length
  have hE := HL1.out L' hT
  have hAO : AOwn Own w1 (.slice A L'.length c) L' := ⟨_, hA, fun k e => hOnew w1 hb1 k (hA.own_ge k e)⟩
  have hll2 : L'.length < 1000 := by omega
  have HAO := Aside0.mk hAO
  have HJ1 := Aside0.mk (HJ.out [] W w1 none h0 (grown_below hb1) (fun _ e => by cases e))
  have HB1 := Aside0.mk hb1
  subst hE
  clear hA hT hLen hAO hll c0 q0 q1 hfo hb1 h0 hOnew
  gi_loopw [10] (fun v10 wr => ∃ i : Nat, v10 = .int .i64 i ∧ i ≤ L'.length ∧ Aside0 (J (L'.take i) wr) ∧ Aside0 (AOwn Own wr (.slice A L'.length c) L') ∧ Aside0 (W.heap.size ≤ wr.heap.size)) (fun v10 _ => L'.length - (intOf v10).toNat)
  case atStart => exact ⟨0, rfl, Nat.zero_le _, HJ1, HAO, ⟨HB1.out.size⟩⟩
  case round =>
    clear HAO HJ1
    obtain ⟨i, rfl, hi, HJ1, HAO, HSZ⟩ := hrel
    by_cases hlt : i < L'.length
    · have g1 : (i : Int) < (L'.length : Int) := by omega
      obtain ⟨ad, hA, x0, x1, x2, x3, x4, x5, x6, x7, x8, x9, x10⟩ := cells_of (Below.refl _ wr) (HAO.out.reads (by omega)) i hlt
      subst hA
      have htk := take_next L' i hlt
      obtain ⟨x, hx⟩ : ∃ x, x = L'[i] := ⟨_, rfl⟩
      rw [← hx] at x0 x1 x2 x3 x4 x5 x6 x7 x8 x9 x10 htk
      have HTK := Aside0.mk htk
      clear hx htk
      obtain ⟨w2, hw2⟩ : ∃ w2, w2 = wr.alloc (.cells #[.int .i64 x.f0.f0, .int .i64 x.f0.f1, .int .i64 x.f0.f2, .int .i64 x.f1, .int .i64 x.f2, .int .i64 x.f3, .int .i64 x.f4, .int .i64 x.f5, .int .i64 x.f6, .int .i64 x.f7, .int .i64 x.f8] 51) := ⟨_, rfl⟩
      have hb2 : Below wr.heap.size wr w2 := by rw [hw2]; exact below_alloc (Below.refl _ _) _
      have hJ2 := HJ.out _ wr w2 none HJ1.out (grown_below hb2) (fun _ e => by cases e)
      have hA2 := HAO.out.below HST.out HSZ.out hb2
      obtain ⟨fn, tmps, assign, body, hy, hR⟩ := HY.out _ x w2 hJ2 (by rw [List.length_take]; omega)
      rw [hw2] at hy
      have HB2 := Aside0.mk hb2
      have HA2 := Aside0.mk hA2
      have HR := Aside0.mk hR
      have HW2 := Aside0.mk hw2
      clear hb2 hJ2 hA2 hR hw2
      gi_wp2
      rw [← HW2.out]
      refine HR.out.mono ?_
      rintro e W3 (⟨rfl, hJ3, hk3⟩ | ⟨rfl, hJx3⟩)
      · have HJ3 := Aside0.mk hJ3
        have HA3 := Aside0.mk (HA2.out.kept hk3)
        have HZ3 : Aside0 (W.heap.size ≤ W3.heap.size) := Aside0.mk (Nat.le_trans HSZ.out (Nat.le_trans HB2.out.size hk3.1))
        clear hJ3 hk3
        gi_wp2
        go_roundw
        case rel => exact ⟨i + 1, by go_num, hlt, ⟨by rw [HTK.out]; exact HJ3.out⟩, HA3, HZ3⟩
        case measure =>
          have e9 : IntKind.i64.wrap ((i : Int) + 1) = (i : Int) + 1 := IntWalk.i64_in _ (by omega)
          simp [intOf, e9]; omega
      · have HJx := Aside0.mk hJx3
        clear hJx3
        gi_wp2
        refine bodyPost_ret (results_none rfl _ _ _) rfl ?_
        exact ⟨⟨_, rfl⟩, .inr ⟨_, by rw [← HTK.out]; exact List.take_prefix _ _, HJx.out⟩⟩
    · obtain rfl : i = L'.length := by omega
      have g1 : ¬ (L'.length : Int) < (L'.length : Int) := by omega
      gi_wp2
      go_end0
      have hje := HJ1.out
      rw [List.take_length] at hje
      first | exact ⟨⟨_, rfl⟩, .inl hje⟩ | exact ⟨⟨_, rfl⟩, .inl ⟨_, rfl, hje⟩⟩
end Go.Proofs.Ythcgiacjmfmamaa.PA

namespace Go.Proofs.Ythcgiacjmfmamaa.PA
set_option linter.unusedVariables false
set_option linter.unusedSimpArgs false
open Go.RowKit Go.Shelf Go.Proofs.YthcgiacjmfmamaaW.PrintWords
attribute [local go_sem] Oper.semAt_some
set_option maxHeartbeats 1000000 in
theorem each_in (F : Fence) (hF : F = Fence.wide) (n : Nat) (p : Option Addr) (qa qn : Int) (w : World) :
    CallsIn F n Try.prog 37 #[.pointer p, .agg #[.int .i64 qa, .int .i64 qn]] w fun e w' => e = .returned (.func (.func 58) #[] #[.pointer (some ⟨w.heap.size, 0, none⟩), .pointer (some ⟨w.heap.size + 1, 0, none⟩)]) ∧ w' = (w.alloc (.cells #[.pointer p] 32)).alloc (.cells #[.int .i64 qa, .int .i64 qn] 23) := by
  have hro : F.round = none := by rw [hF]; rfl
  have hf1 : F.fn 37 := by rw [hF]; trivial
  clear hF
  refine callsIn_of_wp Try.func37 rfl hf1 ?_ hro
  simp only [Try.ntmps37, List.size_toArray, List.length_cons, List.length_nil, Nat.reduceAdd, Nat.reduceSub, Array.replicate_succ, Array.replicate_zero, List.push_toArray, List.append_toArray, List.nil_append, List.cons_append]
  gi_wp2
  go_ret
  exact ⟨rfl, rfl⟩
/-- The box of a slice, and the slice's row. -/
def OwnL (Bl : Nat) (W : World) (k : Nat) : Prop := k = Bl ∨ ∃ v, W.cell? ⟨Bl, 0, none⟩ = some v ∧ v.ownBlock = some k
theorem OwnL.st {Bl : Nat} {A B : World} (hBl : Bl < A.heap.size) (hb : Below A.heap.size A B) (k : Nat) (h : ¬ OwnL Bl A k) : ¬ OwnL Bl B k := by
  rintro (e | ⟨v, hc, hk⟩)
  · exact h (.inl e)
  · rw [hb.cell (p := ⟨Bl, 0, none⟩) hBl] at hc
    exact h (.inr ⟨v, hc, hk⟩)
theorem OwnL.new {Bl t : Nat} {A B : World} {v : Value} (hB : Boxed A Bl t v) (hv : ∀ k, v.ownBlock = some k → k < A.heap.size) (hb : Below A.heap.size A B) (k : Nat) (hk : A.heap.size ≤ k) : ¬ OwnL Bl B k := by
  rintro (e | ⟨u, hc, hu⟩)
  · have := hB.lt; omega
  · rw [hb.cell (p := ⟨Bl, 0, none⟩) hB.lt, hB.cell] at hc
    cases hc
    have := hv k hu
    omega
/-- A round that writes no cells but its own. -/
theorem KpO.put {Bl : Nat} {N : Nat} (hN : Bl < N) (W : World) (l : Nat) (o o' : Obj) (hl : N ≤ l) (ho : W.heap[l]? = some o) (hc : o.isCells = false) : KpO (OwnL Bl) W (W.putObj l o') := by
  refine ⟨by simp [World.putObj], fun k x hk hx hn => ?_⟩
  have hkl : k ≠ l := fun e => by rw [e, ho] at hk; cases hk; rw [hc] at hx; cases hx
  refine ⟨by rw [World.putObj_heap_other hkl]; exact hk, ?_⟩
  rintro (e | ⟨v, hcell, hv⟩)
  · exact hn (.inl e)
  · have : (W.putObj l o').cell? ⟨Bl, 0, none⟩ = W.cell? ⟨Bl, 0, none⟩ := World.cell?_of_block (World.putObj_heap_other (by show Bl ≠ l; omega))
    rw [this] at hcell
    exact hn (.inr ⟨v, hcell, hv⟩)
theorem KpO.append {Bl t : Nat} {W w1 : World} {v v' : Value} {tmp : Obj} (hv : Boxed W Bl t v) (hv1 : Boxed w1 Bl t v) (hg : (W.alloc tmp).grownBy w1 v.ownBlock) (hat : v'.ownBlock = v.ownBlock ∨ v'.ownBlock = some (W.alloc tmp).heap.size) : KpO (OwnL Bl) W (w1.setCell ⟨Bl, 0, none⟩ v') := by
  have hs : W.heap.size ≤ w1.heap.size := by have := hg.size; simp at this; omega
  refine ⟨by have := (grownBy_set w1 ⟨Bl, 0, none⟩ v').size; omega, fun k o hk hc hn => ?_⟩
  have hklt := (Array.getElem?_eq_some_iff.1 hk).1
  have n1 : k ≠ Bl := fun e => hn (.inl e)
  have n2 : v.ownBlock ≠ some k := fun e => hn (.inr ⟨v, hv.cell, e⟩)
  refine ⟨?_, ?_⟩
  · rw [Below.heap_setCell w1 ⟨Bl, 0, none⟩ v' k n1, hg.block k (by simp; omega) (fun e => n2 e.symm), heap_old _ _ _ hklt]
    exact hk
  · rintro (e | ⟨u, hu, hk'⟩)
    · exact n1 e
    · rw [(hv1.set v').cell] at hu
      cases hu
      rcases hat with e | e
      · rw [e] at hk'; exact n2 hk'
      · rw [e] at hk'
        have : W.heap.size + 1 = k := by simpa using hk'
        omega
theorem KpO.quiet {Own : World → Nat → Prop} (W : World) : KpO Own W W := ⟨Nat.le_refl _, fun _ _ h _ hn => ⟨h, hn⟩⟩
theorem each_stops (F : Fence) (hF : F = Fence.wide) (n : Nat) (hn : 1 ≤ n) (w : World) {base : Nat} {p : Option Addr} {L : List TB} (h : Holds w base p L) (hlen : L.length < 1000) (qa qn : Int) (Bs Bq Bl t : Nat) (v0 : Value) (hbs : Boxed w Bs 32 (.pointer p)) (hbq : w.heap[Bq]? = some (.cells #[.int .i64 qa, .int .i64 qn] 23 (0, 0))) (hB : Boxed w Bl t v0) (hv : ∀ k, v0.ownBlock = some k → k < w.heap.size)
    (L1 : List TB) (hL1 : ∀ L', Told (fun x y => cmpID x.f0 y.f0) (fnd qa qn (fun _ => true) L) L' → L' = L1) :
    SeqStopsK F n Try.prog 58 #[.pointer (some ⟨Bs, 0, none⟩), .pointer (some ⟨Bq, 0, none⟩)] encB (KpO (OwnL Bl)) (fun ys => ys = L1) (fun pre => pre <+: L1) L1.length w := fun l J Jx W hW hJ _ hY h0 =>
  each1_in F hF n hn l Bs Bq (OwnL Bl) W (fun A B hA hb k _ hnk => OwnL.st (Nat.lt_of_lt_of_le hB.lt (Nat.le_trans hW.size hA)) hb k hnk)
    (fun B hb k hk => OwnL.new (hB.kept (grown_below hW) (by simp)) (fun k e => Nat.lt_of_lt_of_le (hv k e) hW.size) hb k hk) (h.below hW) hlen qa qn (hbs.kept (grown_below hW) (by simp)) ((hW.block _ (blk_lt hbq)).trans hbq) L1 hL1 J Jx hJ hY h0
/-- What all's own cells hold between two rounds, pre having been kept. -/
def IA (w : World) (s : Nat) (m : Nat) (pre : List TB) (W : World) : Prop :=
  ((((∃ v, Boxed W (s + 2) 29 v ∧ W.ownsRow s 51 11 v pre.length (bunCells pre) ∧ (v = .slice none 0 0 ↔ pre = [])) ∧ Boxed W (s + 1) 3 (.int .i64 m)) ∧ Below s w W) ∧ s + 5 ≤ W.heap.size) ∧ pre.length ≤ m
theorem IA_own (w : World) (s B m : Nat) (h1 : s ≤ w.heap.size) (h2 : s ≤ B) : OwnFrom B (IA w s m) :=
  OwnFrom.and (OwnFrom.and (OwnFrom.and (OwnFrom.and (Own.from (holdsRow_own s (s + 2) 29 51 11 (fun pre => pre.length) (fun pre => bunCells pre) (fun pre v => v = .slice none 0 0 ↔ pre = [])) _) (Own.from (boxed_own (s + 1) 3 (fun _ => .int .i64 m)) _)) (ownFrom_below h1 h2)) (fun _ _ _ _ hs hg _ => Nat.le_trans hs hg.size)) (ownFrom_pure B _)
/-- Where the loop has been left: m have been kept, one more has come. -/
def IxA (w : World) (s : Nat) (m : Nat) (c : Code) (ys : List TB) (W : World) : Prop := c = .exit 0 ∧ ∃ pre x, ys = pre ++ [x] ∧ IA w s m pre W ∧ pre.length = m
theorem IxA_own (w : World) (s B m : Nat) (h1 : s ≤ w.heap.size) (h2 : s ≤ B) (c : Code) : OwnFrom B (IxA w s m c) := by
  rintro ys X Y row ⟨hc, pre, x, e, h, hm⟩ hg hr
  exact ⟨hc, pre, x, e, IA_own w s B m h1 h2 pre X Y row h hg hr, hm⟩
set_option maxRecDepth 100000 in
set_option maxHeartbeats 4000000 in
theorem all_x (w : World) {base : Nat} {p : Option Addr} {L : List TB} (h : Holds w base p L) (hlen : L.length < 1000) (qa qn : Int) (m : Nat) (hm : m < 100000) (L1 : List TB) (hL1 : ∀ L', Told (fun x y => cmpID x.f0 y.f0) (fnd qa qn (fun _ => true) L) L' → L' = L1) (hl1 : L1.length < 1000) :
    CallsIn Fence.wide 5 Try.prog 33 #[.pointer p, .agg #[.int .i64 qa, .int .i64 qn], .int .i64 m] w fun e w' => ∃ v, e = .returned v ∧ Below w.heap.size w w' ∧ ARow w' w.heap.size v (L1.take m) := by
  obtain ⟨F, hF⟩ : ∃ F, F = Fence.wide := ⟨_, rfl⟩
  rw [← hF]
  obtain ⟨n, hn⟩ : ∃ n, n = 5 := ⟨_, rfl⟩
  rw [← hn]
  have h1 : 1 ≤ n := by omega
  have hn3 : 3 ≤ n := by omega
  have hro : F.round = none := by rw [hF]; rfl
  have hf1 : F.fn 33 := by rw [hF]; trivial
  have hf2 : F.fn 37 := by rw [hF]; trivial
  have hf3 : F.fn 58 := by rw [hF]; trivial
  have HF := Aside0.mk hF
  have HH := Aside0.mk h
  have HL1 := Aside0.mk hL1
  clear hF hn h hL1
  obtain ⟨i0, hi, hz0, hz1, hz2⟩ := info_parts info51
  have hnf : ∀ (W : World) (x : Array Value), (binOp .eql 69 (.func (.func 58) #[] x) .nilFunc).run Try.prog W = .ok (.bool false) W := fun W x => by kernel_rfl
  refine callsIn_of_wp_marks Try.func33 rfl hf1 ?_ hro
  simp only [Try.ntmps33, List.size_toArray, List.length_cons, List.length_nil, Nat.reduceAdd, Nat.reduceSub, Array.replicate_succ, Array.replicate_zero, List.push_toArray, List.append_toArray, List.nil_append, List.cons_append]
  gi_wp2_with (gi_at_call 37; refine (each_in F HF.out (n - 1) p qa qn _).mono ?_; rintro e w' ⟨rfl, rfl⟩)
  obtain ⟨s, hs⟩ : ∃ s, s = w.heap.size := ⟨_, rfl⟩
  obtain ⟨w4, hw4⟩ : ∃ w4, w4 = (((((w.alloc (Obj.cells #[Value.int IntKind.i64 qa, Value.int IntKind.i64 qn] 23)).alloc (Obj.cells #[Value.int IntKind.i64 (m : Int)] 3)).alloc (Obj.cells #[Value.slice none 0 0] 29)).alloc (Obj.cells #[Value.pointer p] 32)).alloc (Obj.cells #[Value.int IntKind.i64 qa, Value.int IntKind.i64 qn] 23)) := ⟨_, rfl⟩
  have hB4 : Below s w w4 := by rw [hs, hw4]; repeat (first | exact Below.refl _ _ | apply below_alloc | apply below_drew)
  have bM : Boxed w4 (s + 1) 3 (.int .i64 m) := by
    have := Boxed.new (w.alloc (Obj.cells #[Value.int IntKind.i64 qa, Value.int IntKind.i64 qn] 23)) 3 (.int .i64 (m : Int))
    rw [World.size_alloc, ← hs] at this
    rw [hw4]; exact ((this.alloc _).alloc _).alloc _
  have bL : Boxed w4 (s + 2) 29 (.slice none 0 0) := by
    have := Boxed.new ((w.alloc (Obj.cells #[Value.int IntKind.i64 qa, Value.int IntKind.i64 qn] 23)).alloc (Obj.cells #[Value.int IntKind.i64 (m : Int)] 3)) 29 (.slice none 0 0)
    rw [World.size_alloc, World.size_alloc, ← hs] at this
    rw [hw4]; exact (this.alloc _).alloc _
  have bS : Boxed w4 (s + 3) 32 (.pointer p) := by
    have := Boxed.new (((w.alloc (Obj.cells #[Value.int IntKind.i64 qa, Value.int IntKind.i64 qn] 23)).alloc (Obj.cells #[Value.int IntKind.i64 (m : Int)] 3)).alloc (Obj.cells #[Value.slice none 0 0] 29)) 32 (.pointer p)
    rw [World.size_alloc, World.size_alloc, World.size_alloc, ← hs] at this
    rw [hw4]; exact this.alloc _
  have bQ : w4.heap[s + 4]? = some (.cells #[.int .i64 qa, .int .i64 qn] 23 (0, 0)) := by
    have := heap_alloc_new ((((w.alloc (Obj.cells #[Value.int IntKind.i64 qa, Value.int IntKind.i64 qn] 23)).alloc (Obj.cells #[Value.int IntKind.i64 (m : Int)] 3)).alloc (Obj.cells #[Value.slice none 0 0] 29)).alloc (Obj.cells #[Value.pointer p] 32)) (Obj.cells #[Value.int IntKind.i64 qa, Value.int IntKind.i64 qn] 23)
    rw [World.size_alloc, World.size_alloc, World.size_alloc, World.size_alloc, ← hs] at this
    rw [hw4]; exact this
  have hz4 : w4.heap.size = s + 5 := by rw [hw4, hs]; simp
  rw [← hw4]
  rw [show w.heap.size + 1 + 1 + 1 + 1 = s + 4 by omega, show w.heap.size + 1 + 1 + 1 = s + 3 by omega, show w.heap.size + 1 + 1 = s + 2 by omega, show w.heap.size + 1 = s + 1 by omega, ← hs]
  have HB4 := hB4
  rw [hs] at hB4
  have HSQ : Aside0 (SeqStopsK F (n - 1) Try.prog 58 #[.pointer (some ⟨s + 3, 0, none⟩), .pointer (some ⟨s + 4, 0, none⟩)] encB (KpO (OwnL (s + 2))) (fun ys => ys = L1) (fun pre => pre <+: L1) L1.length w4) :=
    Aside0.mk (each_stops F HF.out (n - 1) (by omega) w4 (HH.out.below hB4) hlen qa qn (s + 3) (s + 4) (s + 2) 29 (.slice none 0 0) bS bQ bL (fun k e => by cases e) L1 HL1.out)
  refine wpIn_rangeFunc_ownH hro h1 (gf := 58) (lb := #[.pointer (some ⟨s + 3, 0, none⟩), .pointer (some ⟨s + 4, 0, none⟩)]) rfl hf3 (enters_of Try.func58 (by kernel_rfl) rfl)
    HSQ.out KpO.trans (fun W l o o' hl ho hc hw => KpO.put (Bl := s + 2) (N := w4.heap.size) (by omega) W l o o' hl ho hc) (Below.refl _ _) (fun _ => rfl)
    (IA w s m) (IxA w s m) (IA_own w s w4.heap.size m (by omega) (by omega)) (fun c => IxA_own w s w4.heap.size m (by omega) (by omega) c)
    ⟨⟨⟨⟨⟨_, bL, World.ownsRow_nil _ _ _ _, by simp⟩, bM⟩, HB4⟩, by omega⟩, Nat.zero_le _⟩
    (fun x a' W => ∃ Bx, s + 5 ≤ Bx ∧ W.heap[Bx]? = some (.cells (cellsB x) 51 (0, 0)) ∧ a' = { tmps := #[.pointer p, .agg #[.int .i64 qa, .int .i64 qn], .int .i64 m, undef, .pointer (some ⟨s, 0, none⟩), .pointer (some ⟨s + 1, 0, none⟩), .slice none 0 0, .pointer (some ⟨s + 2, 0, none⟩), .func (.func 58) #[] #[.pointer (some ⟨s + 3, 0, none⟩), .pointer (some ⟨s + 4, 0, none⟩)], .pointer (some ⟨Bx, 0, none⟩), .pointer p, .agg #[.int .i64 qa, .int .i64 qn], .func (.func 58) #[] #[.pointer (some ⟨s + 3, 0, none⟩), .pointer (some ⟨s + 4, 0, none⟩)], .func (.func 58) #[] #[.pointer (some ⟨s + 3, 0, none⟩), .pointer (some ⟨s + 4, 0, none⟩)], .bool false, .func (.func 58) #[] #[.pointer (some ⟨s + 3, 0, none⟩), .pointer (some ⟨s + 4, 0, none⟩)], bunV x, undef, undef, undef, undef, undef, undef, undef, undef, undef], defers := [] })
    ?hAx ?assign ?body ?done ?stop
  case hAx =>
    rintro x a' u W W' row ⟨Bx, g1, g2, g3⟩ hg hr
    exact ⟨Bx, g1, (Own.from (block_own (β := Unit) Bx (cellsB x) 51) _) u W W' row g2 hg hr, g3⟩
  case assign =>
    rintro l pre x W K hi' hK
    have HS := Aside0.mk hs
    have HW4 := Aside0.mk hw4
    clear hs hw4
    unfold encB
    gi_wp2
    have h4 := hi'.1.2
    have hle : s + 5 ≤ W.heap.size := h4
    have hbl := hi'.1.1.1.1
    refine hK _ _ ((KeepsOthers.alloc _ _).from _) ?_ (OwnFrom.alloc (IA_own w s W.heap.size m (by have := HS.out; omega) (by omega)) _ hi') ⟨W.heap.size, h4, heap_alloc_new W _, rfl⟩
    refine ⟨by simp, fun k o hk hc hn => ⟨(heap_old _ _ _ (Array.getElem?_eq_some_iff.1 hk).1).trans hk, OwnL.st (by omega) (below_alloc (Below.refl _ _) _) k hn⟩⟩
  case body =>
    rintro l pre x a' W hl hr ⟨⟨⟨⟨⟨v, hv, hrow, hnil⟩, hM⟩, hB⟩, h4⟩, hpm⟩ ⟨Bx, hBx, hbx, rfl⟩ hlt
    have HS := Aside0.mk hs
    have HW4 := Aside0.mk hw4
    have HZ4 := Aside0.mk hz4
    clear hs hw4 bM bL bS bQ hB4 HB4 hz4 hr
    have hbx' : W.heap[Bx]? = some (.cells #[.int .i64 x.f0.f0, .int .i64 x.f0.f1, .int .i64 x.f0.f2, .int .i64 x.f1, .int .i64 x.f2, .int .i64 x.f3, .int .i64 x.f4, .int .i64 x.f5, .int .i64 x.f6, .int .i64 x.f7, .int .i64 x.f8] 51 (0, 0)) := hbx
    obtain ⟨x0, x1, x2, x3, x4, x5, x6, x7, x8, x9, x10⟩ := box11 hbx'
    obtain ⟨Av, cv, rfl⟩ := own_slice hrow
    have cM := hM.cell
    have cL := hv.cell
    have hs2 : s ≤ W.heap.size := by omega
    have HNIL := Aside0.mk hnil
    have HPM := Aside0.mk hpm
    clear hnil hpm
    by_cases hfull : pre.length = m
    · have t1 : ((pre.length : Int) == (m : Int)) = true := by simp [hfull]
      have t2 : decide (pre.length = m) = true := decide_eq_true hfull
      have HF2 := Aside0.mk hfull
      clear hfull
      gi_wp2
      exact ⟨KeepsFrom.refl _ _, rfl, pre, x, rfl, ⟨⟨⟨⟨⟨_, hv, hrow, HNIL.out⟩, hM⟩, hB⟩, h4⟩, HPM.out⟩, HF2.out⟩
    · have t1 : ((pre.length : Int) == (m : Int)) = false := by simp; omega
      have t2 : decide (pre.length = m) = false := decide_eq_false hfull
      have t3 : ¬ (pre.length : Int) = (m : Int) := by omega
      have hlt2 : pre.length < m := by have := HPM.out; omega
      gi_wp2_with (gi_at_builtin; go_loud (refine wpListIn_append_own_at _ rfl _ _ 29 rfl s 51 i0 _ 11 88 Try.underlying29 hi hz0 hz1 hz2 rfl (by decide) _ _ _ rfl (hrow.alloc _) ⟨W.heap.size, 0, none⟩ 1 1 (bunCells [x]) rfl (bunCells_length [x]) (new_cells _ (cellsB x) _) (bunCells_one [x]) (by unfold maxLen; omega) (by omega) (by simp; omega) ?_; intro v' w1 hown' hgrow _ hat; obtain ⟨g', cap', rfl⟩ := ownsRow_succ hown'; obtain ⟨hv1, hv3, hr2, hk2, hb3⟩ := hv.appended (by decide) hrow hs2 (by omega) hown' hgrow; have hc1 := hv1.cell; have hf1 := hv1.frozen))
      have hkp := KpO.append hv hv1 hgrow hat
      refine ⟨hk2.from _, hkp, ⟨⟨⟨⟨_, hv3, by rw [List.length_append, bunCells_append]; exact hr2, by simp⟩, ?_⟩, hB.trans hb3⟩, Nat.le_trans h4 hb3.size⟩, by rw [List.length_append]; exact hlt2⟩
      refine (hkp.2 (s + 1) _ hM rfl ?_).1
      rintro (e | ⟨u, hu, hku⟩)
      · omega
      · rw [hv.cell] at hu
        cases hu
        exact hM.not_row (by decide) hrow hku.symm
  case done =>
    rintro D ys W hD hys hI hK
    obtain ⟨⟨⟨⟨⟨v, hv, hrow, hnil⟩, hM⟩, hB⟩, h4⟩, hpm⟩ := hI
    have HS := Aside0.mk hs
    have HW4 := Aside0.mk hw4
    have HZ4 := Aside0.mk hz4
    clear hs hw4 bM bL bS bQ hB4 HB4 hz4
    have cv := hv.cell
    have hA := ARow.of_own hrow hnil.2
    gi_wp2
    refine ⟨by simp, .inl ⟨_, _, rfl, run_takeDeferred hK, ?_⟩⟩
    refine ⟨_, results_tmp rfl _ _ _, v, rfl, ?_, ?_⟩
    · have hBw : Below w.heap.size w W := HS.out ▸ hB
      exact hBw.trans (belowK_b (w := w) (Nat.le_refl _) W D _ _ (by have := HZ4.out; have := HS.out; omega) hK rfl rfl)
    · rw [List.take_of_length_le (by rw [← hys]; exact hpm), ← hys]
      exact (hA.mono (by have := HS.out; omega)).putObj _ hK rfl
  case stop =>
    rintro D c ys W hD hys ⟨rfl, pre, x, hyx, hI, hpl⟩ hK
    obtain ⟨⟨⟨⟨⟨v, hv, hrow, hnil⟩, hM⟩, hB⟩, h4⟩, hpm⟩ := hI
    have HS := Aside0.mk hs
    have HW4 := Aside0.mk hw4
    have HZ4 := Aside0.mk hz4
    clear hs hw4 bM bL bS bQ hB4 HB4 hz4
    have cv := hv.cell
    have hA := ARow.of_own hrow hnil.2
    gi_wp2
    refine ⟨by simp, .inl ⟨_, _, rfl, run_takeDeferred hK, ?_⟩⟩
    refine ⟨_, results_tmp rfl _ _ _, v, rfl, ?_, ?_⟩
    · have hBw : Below w.heap.size w W := HS.out ▸ hB
      exact hBw.trans (belowK_b (w := w) (Nat.le_refl _) W D _ _ (by have := HZ4.out; have := HS.out; omega) hK rfl rfl)
    · have hpre : L1.take m = pre := by
        obtain ⟨t, ht⟩ := hys
        rw [← ht, hyx, ← hpl, List.append_assoc, List.take_append_of_le_length (Nat.le_refl _), List.take_length]
      rw [hpre]
      exact (hA.mono (by have := HS.out; omega)).putObj _ hK rfl
end Go.Proofs.Ythcgiacjmfmamaa.PA
