/-
  query.Each in a loop that removes from the store meanwhile.
-/
import Derived.Test.YthcgiacjmfmamaaME
import Derived.Test.YthcgiacjmfmamaaMC
namespace Go.Proofs.Ythcgiacjmfmamaa.PA
set_option linter.unusedVariables false
set_option linter.unusedSimpArgs false
open Go.RowKit Go.Shelf Go.Proofs.YthcgiacjmfmamaaW.PrintWords
attribute [local go_sem] Oper.semAt_some
/-- The box of a slice, its row, and such objects as a store is made of. -/
def OwnE (Bg base : Nat) (W : World) (k : Nat) : Prop := OwnL Bg W k ∨ (base ≤ k ∧ ∃ o, W.heap[k]? = some o ∧ shelf o = true)
theorem OwnE.st {Bg base : Nat} {A B : World} (hBg : Bg < A.heap.size) (hb : Below A.heap.size A B) (k : Nat) (hk : k < A.heap.size) (h : ¬ OwnE Bg base A k) : ¬ OwnE Bg base B k := by
  rintro (e | ⟨h1, o, ho, hs⟩)
  · exact OwnL.st hBg hb k (fun e' => h (.inl e')) e
  · rw [hb.block k hk] at ho
    exact h (.inr ⟨h1, o, ho, hs⟩)
theorem bun_shelf (cs : Array Value) : shelf (.cells cs 51 (0, 0)) = false := rfl
theorem ARow.typed {w : World} {base : Nat} {v : Value} {L : List TB} (h : ARow w base v L) (k : Nat) (hk : v.ownBlock = some k) : ∃ cs, w.heap[k]? = some (.cells cs 51 (0, 0)) := by
  rcases h with ⟨e1, _⟩ | ⟨g, cap, h0, rfl, h2, h3, cur, hg, hc⟩
  · rw [e1] at hk; cases hk
  · cases hk; exact ⟨_, hg⟩
theorem OwnE.free {Bg base : Nat} {W : World} (hB : Boxed W Bg 29 (.slice none 0 0)) {k : Nat} {cs : Array Value} {t : Nat} (h : W.heap[k]? = some (.cells cs t (0, 0))) (ht : t ≠ 29) (hs : shelf (.cells cs t (0, 0)) = false) : ¬ OwnE Bg base W k := by
  rintro ((e | ⟨v, hc, hv⟩) | ⟨h1, o, ho, hs'⟩)
  · subst e
    rw [hB] at h
    injection h with h
    injection h with _ h
    exact ht h.symm
  · rw [hB.cell] at hc
    cases hc
    cases hv
  · rw [h] at ho
    cases ho
    rw [hs] at hs'
    cases hs'
theorem KpO.of_L {Bg base : Nat} {W W' : World} (hs : W.heap.size ≤ W'.heap.size) (h : ∀ (k : Nat) (o : Obj), W.heap[k]? = some o → o.isCells = true → ¬ OwnE Bg base W k → W'.heap[k]? = some o ∧ ¬ OwnL Bg W' k) : KpO (OwnE Bg base) W W' := by
  refine ⟨hs, fun k o hk hc hn => ?_⟩
  obtain ⟨h1, h2⟩ := h k o hk hc hn
  refine ⟨h1, ?_⟩
  rintro (e | ⟨hb, o', ho', hsh⟩)
  · exact h2 e
  · rw [h1] at ho'
    cases ho'
    exact hn (.inr ⟨hb, o, hk, hsh⟩)
theorem KpO.ofL {Bg base : Nat} {W W' : World} (h : KpO (OwnL Bg) W W') : KpO (OwnE Bg base) W W' :=
  KpO.of_L h.1 (fun k o hk hc hn => h.2 k o hk hc (fun e => hn (.inl e)))
theorem KpO.ofKeeps {Bg base : Nat} {W W' : World} {v : Value} (hB : Boxed W Bg 29 v) (h : Keeps base W W') : KpO (OwnE Bg base) W W' := by
  have hsame : ∀ (k : Nat) (o : Obj), W.heap[k]? = some o → ¬ (base ≤ k ∧ ∃ o, W.heap[k]? = some o ∧ shelf o = true) → W'.heap[k]? = some o := fun k o hk hn => by
    by_cases hkb : base ≤ k
    · refine h.kept k o hk ?_
      cases e : shelf o with
      | false => rfl
      | true => exact absurd ⟨hkb, o, hk, e⟩ hn
    · rw [h.below.block k (by omega)]; exact hk
  have hB' : Boxed W' Bg 29 v := hsame Bg _ hB (by
    rintro ⟨_, o, ho, hs⟩
    rw [hB] at ho
    cases ho
    cases hs)
  refine KpO.of_L h.size (fun k o hk hc hn => ⟨hsame k o hk (fun e => hn (.inr e)), ?_⟩)
  rintro (e | ⟨u, hu, hku⟩)
  · exact hn (.inl (.inl e))
  · rw [hB'.cell] at hu
    cases hu
    exact hn (.inl (.inr ⟨v, hB.cell, hku⟩))
theorem KpO.cell {Own : World → Nat → Prop} {W W' : World} (h : KpO Own W W') {k : Nat} {cs : Array Value} {t : Nat} {fr : Nat × Nat} (hk : W.heap[k]? = some (.cells cs t fr)) (hn : ¬ Own W k) : W'.heap[k]? = some (.cells cs t fr) := (h.2 k _ hk rfl hn).1
/-- A row that was read at the loop's beginning is read still. -/
theorem R_kpo {Bg base bs : Nat} {ok : Nat → Prop} {W W' : World} {v : Value} {l : List TB} (hR : Kd.R k51 51 W bs ok v l) (hB : Boxed W Bg 29 (.slice none 0 0)) (hK : KpO (OwnE Bg base) W W') : ∃ A c, v = .slice A l.length c ∧ l.length ≤ c ∧ Kd.C k51 W' A l.length l := by
  refine Kd.R_reads (Kd.R_move (Kd.R_bound hR) (w1 := W') ?_)
  rintro k ⟨_, _, _, q, hq, cells, hc⟩
  have hq2 : q ∈ [51] := hq
  have hq' : q = 51 := by simpa using hq2
  subst hq'
  rw [hc]
  exact hK.cell hc (OwnE.free hB hc (by decide) rfl)
/-- The loops' own book-keeping turns nothing of the rest. -/
theorem KpO.grownN {Bg base : Nat} {W W' : World} {v : Value} {row : Option Nat} (hB : Boxed W Bg 29 v) (hg : W.grownBy W' row) (hr : ∀ r, row = some r → ∃ o : Obj, W.heap[r]? = some o ∧ o.isCells = false) : KpO (OwnE Bg base) W W' := by
  have hsame : ∀ (k : Nat) (o : Obj), W.heap[k]? = some o → o.isCells = true → W'.heap[k]? = some o := fun k o hk hc => by
    rw [hg.block k (blk_lt hk) (fun e => by
      obtain ⟨o', ho', hc'⟩ := hr k e.symm
      rw [hk] at ho'; cases ho'; rw [hc] at hc'; cases hc')]
    exact hk
  have hB' : Boxed W' Bg 29 v := hsame Bg _ hB rfl
  refine KpO.of_L hg.size (fun k o hk hc hn => ⟨hsame k o hk hc, ?_⟩)
  rintro (e | ⟨u, hu, hku⟩)
  · exact hn (.inl (.inl e))
  · rw [hB'.cell] at hu
    cases hu
    exact hn (.inl (.inr ⟨v, hB.cell, hku⟩))
theorem StoM.grownN {w w' : World} {base b mb : Nat} {T : Nat → List TB} (h : StoM w base b mb T) {row : Option Nat} (hg : w.grownBy w' row) (hr : ∀ r, row = some r → mb < r ∧ ∃ o : Obj, w.heap[r]? = some o ∧ o.isCells = false) : StoM w' base b mb T := by
  obtain ⟨⟨sv, f, ow, hR, hl⟩, hk⟩ := h
  cases row with
  | none => exact ⟨⟨sv, f, ow, hR.step (fun k hk _ => hg.block k hk (by simp)), hl⟩, hk⟩
  | some g =>
    obtain ⟨hlt, o, ho, hc⟩ := hr g rfl
    have n3 : ∀ (o' : Nat), o' < 256 → (sv o').ownBlock ≠ some g := fun o' ho' e => by
      by_cases h8 : o' % 8 = 0
      · have h1 := hR.ids (o' / 8) (by omega)
        rw [show 8 * (o' / 8) = o' by omega] at h1
        obtain ⟨cells, hcc⟩ := own_typed h1 g e
        rw [ho] at hcc; cases hcc; cases hc
      · have h1 := hR.cols o' ho' h8
        obtain ⟨cells, hcc⟩ := own_typed h1 g e
        rw [ho] at hcc; cases hcc; cases hc
    have n1 : b ≠ g := fun e => by
      obtain ⟨cs, hbb, _⟩ := hR.blk
      rw [e, ho] at hbb; cases hbb; cases hc
    have n2 : mb ≠ g := by omega
    have hR' : Rep w base b mb sv (idsOf T) (colsOf T) f (toL T).length (upd ow g 300) :=
      ⟨hR.blk, hR.bb, hR.bm, hR.ids, hR.cols, fun o k ho e => by rw [upd_other _ (fun e2 => n3 o ho (by rw [e, e2]))]; exact hR.own o k ho e,
        by rw [upd_other _ n1]; exact hR.owb, by rw [upd_other _ n2]; exact hR.owm, hR.map⟩
    refine ⟨⟨sv, f, _, hR'.step (fun k hk how => hg.block k hk (fun e => ?_)), hl⟩, hk⟩
    rw [Option.some.injEq] at e
    rw [e, upd_same] at how
    omega
theorem StoM.mb_lt {w : World} {base b mb : Nat} {T : Nat → List TB} (h : StoM w base b mb T) : mb < w.heap.size := by
  obtain ⟨⟨sv, f, ow, hR, hl⟩, hk⟩ := h
  exact hR.map.lt
set_option maxRecDepth 100000 in
set_option maxHeartbeats 4000000 in
theorem each2_in (F : Fence) (hF : F = Fence.wide) (n : Nat) (hn1 : 1 ≤ n) (l Bs Bq : Nat) (Own : World → Nat → Prop) 
    (W : World) (hOst : ∀ A B : World, W.heap.size ≤ A.heap.size → Below A.heap.size A B → ∀ k, k < A.heap.size → ¬ Own A k → ¬ Own B k) (hOnew : ∀ B : World, Below W.heap.size W B → ∀ (bs : Nat) (v : Value) (L : List TB), ARow B bs v L → ∀ k, v.ownBlock = some k → ¬ Own B k) {base : Nat} {p : Option Addr} {L : List TB} (h : Holds W base p L) (hlen : L.length < 1000) (qa qn : Int) (hbs : Boxed W Bs 32 (.pointer p)) (hbq : W.heap[Bq]? = some (.cells #[.int .i64 qa, .int .i64 qn] 23 (0, 0)))
    (L1 : List TB) (hL1 : ∀ L', Told (fun x y => cmpID x.f0 y.f0) (fnd qa qn (fun _ => true) L) L' → L' = L1) (J Jx : List TB → World → Prop) (hJ : AbidesFrom W.heap.size J)
    (hY : ∀ pre (x : TB) W, J pre W → pre.length < L1.length → YieldAt F (n - 1) Try.prog l #[.agg #[.int .i64 x.f0.f0, .int .i64 x.f0.f1, .int .i64 x.f0.f2, .int .i64 x.f1, .int .i64 x.f2, .int .i64 x.f3, .int .i64 x.f4, .int .i64 x.f5, .int .i64 x.f6, .int .i64 x.f7, .int .i64 x.f8]] W fun e W' =>
      (e = .returned (.bool true) ∧ J (pre ++ [x]) W' ∧ KpO Own W W') ∨ (e = .returned (.bool false) ∧ Jx (pre ++ [x]) W')) (h0 : J [] W) :
    CallsIn F n Try.prog 58 #[.func (.yield l) #[] #[], .pointer (some ⟨Bs, 0, none⟩), .pointer (some ⟨Bq, 0, none⟩)] W fun e W' => (∃ v, e = .returned v) ∧
      ((∃ ys, ys = L1 ∧ J ys W') ∨ (∃ pre, pre <+: L1 ∧ Jx pre W')) := by
  have hro : F.round = none := by rw [hF]; rfl
  have hf1 : F.fn 58 := by rw [hF]; trivial
  have hf2 : F.fn 39 := by rw [hF]; trivial
  have HF := Aside0.mk hF
  clear hF
  have c0 := hbs.cell
  have q0 : W.cell? ⟨Bq, 0, none⟩ = some (.int .i64 qa) := (blk_cell hbq 0).trans rfl
  have q1 : W.cell? ⟨Bq, 1, none⟩ = some (.int .i64 qn) := (blk_cell hbq 1).trans rfl
  have hfo := wide_calls (n := n - 1) HF.out (found_x W h hlen qa qn 49 #[] (fun _ => true) enters_always (fun x W _ => always_ok x W))
  have HL1 := Aside0.mk hL1
  have HJ := Aside0.mk hJ
  have HY := Aside0.mk hY
  have HST := Aside0.mk hOst
  have hll := fnd_len qa qn (fun _ => true) L
  clear hL1 hJ hY hOst hbs hbq
  refine callsIn_of_wp Try.func58 rfl hf1 ?_ hro
  simp only [Try.ntmps58, List.size_toArray, List.length_cons, List.length_nil, Nat.reduceAdd, Nat.reduceSub, Array.replicate_succ, Array.replicate_zero, List.push_toArray, List.append_toArray, List.nil_append, List.cons_append]
  gi_wp2_with (gi_at_call 39; refine hfo.mono ?_; rintro e w1 ⟨v, L', rfl, hb1, hA, hT⟩; obtain ⟨A, c, rfl, hc, hCC⟩ := hA.reads (by rw [hT.length]; omega); clear hCC)
  have hLen := hT.length
  have hE := HL1.out L' hT
  have hAO : AOwn Own w1 (.slice A L'.length c) L' := ⟨_, hA, fun k e => hOnew w1 hb1 _ _ _ hA k e⟩
  have hll2 : L'.length < 1000 := by omega
  have HAO := Aside0.mk hAO
  have HJ1 := Aside0.mk (HJ.out [] W w1 none h0 (grown_below hb1) (fun _ e => by cases e))
  have HB1 := Aside0.mk hb1
  subst hE
  clear hA hT hLen hAO hll c0 q0 q1 hfo hb1 h0 hOnew
  gi_loopw [10] (fun v10 wr => ∃ i : Nat, v10 = .int .i64 i ∧ i ≤ L'.length ∧ Aside0 (J (L'.take i) wr) ∧ Aside0 (AOwn Own wr (.slice A L'.length c) L') ∧ Aside0 (W.heap.size ≤ wr.heap.size)) (fun v10 _ => L'.length - (intOf v10).toNat)
  case atStart => exact ⟨0, rfl, Nat.zero_le _, HJ1, HAO, ⟨HB1.out.size⟩⟩
  case round =>
    clear HAO HJ1
    obtain ⟨i, rfl, hi, HJ1, HAO, HSZ⟩ := hrel
    by_cases hlt : i < L'.length
    · have g1 : (i : Int) < (L'.length : Int) := by omega
      obtain ⟨ad, hA, x0, x1, x2, x3, x4, x5, x6, x7, x8, x9, x10⟩ := cells_of (Below.refl _ wr) (HAO.out.reads (by omega)) i hlt
      subst hA
      have htk := take_next L' i hlt
      obtain ⟨x, hx⟩ : ∃ x, x = L'[i] := ⟨_, rfl⟩
      rw [← hx] at x0 x1 x2 x3 x4 x5 x6 x7 x8 x9 x10 htk
      have HTK := Aside0.mk htk
      clear hx htk
      obtain ⟨w2, hw2⟩ : ∃ w2, w2 = wr.alloc (.cells #[.int .i64 x.f0.f0, .int .i64 x.f0.f1, .int .i64 x.f0.f2, .int .i64 x.f1, .int .i64 x.f2, .int .i64 x.f3, .int .i64 x.f4, .int .i64 x.f5, .int .i64 x.f6, .int .i64 x.f7, .int .i64 x.f8] 51) := ⟨_, rfl⟩
      have hb2 : Below wr.heap.size wr w2 := by rw [hw2]; exact below_alloc (Below.refl _ _) _
      have hJ2 := HJ.out _ wr w2 none HJ1.out (grown_below hb2) (fun _ e => by cases e)
      have hA2 := HAO.out.below HST.out HSZ.out hb2
      obtain ⟨fn, tmps, assign, body, hy, hR⟩ := HY.out _ x w2 hJ2 (by rw [List.length_take]; omega)
      rw [hw2] at hy
      have HB2 := Aside0.mk hb2
      have HA2 := Aside0.mk hA2
      have HR := Aside0.mk hR
      have HW2 := Aside0.mk hw2
      clear hb2 hJ2 hA2 hR hw2
      gi_wp2
      rw [← HW2.out]
      refine HR.out.mono ?_
      rintro e W3 (⟨rfl, hJ3, hk3⟩ | ⟨rfl, hJx3⟩)
      · have HJ3 := Aside0.mk hJ3
        have HA3 := Aside0.mk (HA2.out.kept hk3)
        have HZ3 : Aside0 (W.heap.size ≤ W3.heap.size) := Aside0.mk (Nat.le_trans HSZ.out (Nat.le_trans HB2.out.size hk3.1))
        clear hJ3 hk3
        gi_wp2
        go_roundw
        case rel => exact ⟨i + 1, by go_num, hlt, ⟨by rw [HTK.out]; exact HJ3.out⟩, HA3, HZ3⟩
        case measure =>
          have e9 : IntKind.i64.wrap ((i : Int) + 1) = (i : Int) + 1 := IntWalk.i64_in _ (by omega)
          simp [intOf, e9]; omega
      · have HJx := Aside0.mk hJx3
        clear hJx3
        gi_wp2
        refine bodyPost_ret (results_none rfl _ _ _) rfl ?_
        exact ⟨⟨_, rfl⟩, .inr ⟨_, by rw [← HTK.out]; exact List.take_prefix _ _, HJx.out⟩⟩
    · obtain rfl : i = L'.length := by omega
      have g1 : ¬ (L'.length : Int) < (L'.length : Int) := by omega
      gi_wp2
      go_end0
      have hje := HJ1.out
      rw [List.take_length] at hje
      first | exact ⟨⟨_, rfl⟩, .inl hje⟩ | exact ⟨⟨_, rfl⟩, .inl ⟨_, rfl, hje⟩⟩
theorem each2_stops (F : Fence) (hF : F = Fence.wide) (n : Nat) (hn : 1 ≤ n) (w : World) {bs0 : Nat} {p : Option Addr} {L : List TB} (h : Holds w bs0 p L) (hlen : L.length < 1000) (qa qn : Int) (Bs Bq Bg base : Nat) (hbs : Boxed w Bs 32 (.pointer p)) (hbq : w.heap[Bq]? = some (.cells #[.int .i64 qa, .int .i64 qn] 23 (0, 0))) (hB : Boxed w Bg 29 (.slice none 0 0))
    (L1 : List TB) (hL1 : ∀ L', Told (fun x y => cmpID x.f0 y.f0) (fnd qa qn (fun _ => true) L) L' → L' = L1) :
    SeqStopsK F n Try.prog 58 #[.pointer (some ⟨Bs, 0, none⟩), .pointer (some ⟨Bq, 0, none⟩)] encB (KpO (OwnE Bg base)) (fun ys => ys = L1) (fun pre => pre <+: L1) L1.length w := fun l J Jx W hW hJ _ hY h0 =>
  each2_in F hF n hn l Bs Bq (OwnE Bg base) W (fun A B hA hb k hk hnk => OwnE.st (Nat.lt_of_lt_of_le hB.lt (Nat.le_trans hW.size hA)) hb k hk hnk)
    (fun B hb bs v L hA k e => by
      obtain ⟨cs, hcs⟩ := hA.typed k e
      exact OwnE.free ((hB.kept (grown_below hW) (by simp)).kept (grown_below hb) (by simp)) hcs (by decide) rfl)
    (h.below hW) hlen qa qn (hbs.kept (grown_below hW) (by simp)) ((hW.block _ (blk_lt hbq)).trans hbq) L1 hL1 J Jx hJ hY h0
theorem OwnE.free' {Bg base : Nat} {W : World} (hB : Boxed W Bg 29 (.slice none 0 0)) {k : Nat} {cs : Array Value} {t : Nat} (h : W.heap[k]? = some (.cells cs t (0, 0))) (hk : k ≠ Bg) (hs : shelf (.cells cs t (0, 0)) = false) : ¬ OwnE Bg base W k := by
  rintro ((e | ⟨v, hc, hv⟩) | ⟨h1, o, ho, hs'⟩)
  · exact hk e
  · rw [hB.cell] at hc
    cases hc
    cases hv
  · rw [h] at ho
    cases ho
    rw [hs] at hs'
    cases hs'
theorem StoM.grownC {w w' : World} {base b mb : Nat} {T : Nat → List TB} (h : StoM w base b mb T) {row : Option Nat} (hg : w.grownBy w' row) (hr : ∀ g, row = some g → ∃ cs t, w.heap[g]? = some (.cells cs t (0, 0)) ∧ t ≠ 48 ∧ t ≠ 3 ∧ t ≠ 87) : StoM w' base b mb T := by
  obtain ⟨⟨sv, f, ow, hR, hl⟩, hk⟩ := h
  cases row with
  | none => exact ⟨⟨sv, f, ow, hR.step (fun k hk _ => hg.block k hk (by simp)), hl⟩, hk⟩
  | some g =>
    obtain ⟨cs, t, hc, t1, t2, t3⟩ := hr g rfl
    obtain ⟨n1, n2, n3⟩ := hR.far hc t1 t2 t3
    have hR' : Rep w base b mb sv (idsOf T) (colsOf T) f (toL T).length (upd ow g 300) :=
      ⟨hR.blk, hR.bb, hR.bm, hR.ids, hR.cols, fun o k ho e => by rw [upd_other _ (fun e2 => n3 o ho (by rw [e, e2]))]; exact hR.own o k ho e,
        by rw [upd_other _ (Ne.symm n1)]; exact hR.owb, by rw [upd_other _ (Ne.symm n2)]; exact hR.owm, hR.map⟩
    refine ⟨⟨sv, f, _, hR'.step (fun k hk how => hg.block k hk (fun e => ?_)), hl⟩, hk⟩
    rw [Option.some.injEq] at e
    rw [e, upd_same] at how
    omega
/-- What the loop holds between two rounds, pre having come. -/
def IE (wB : World) (g base b mb : Nat) (M : List TB) (pre : List TB) (W : World) : Prop :=
  (((∃ v, Boxed W g 29 v ∧ W.ownsRow g 51 11 v pre.length (bunCells pre) ∧ (v = .slice none 0 0 ↔ pre = [])) ∧ KpO (OwnE g base) wB W) ∧ Below base wB W) ∧ ∃ T, StoM W base b mb T ∧ ((pre = [] ∧ (toL T).Perm M) ∨ toL T = [])
theorem IE_own (wB : World) (g base b mb B : Nat) (M : List TB) (h1 : mb < B) (h2 : base ≤ B) (h3 : base ≤ wB.heap.size) : OwnFrom B (IE wB g base b mb M) := by
  rintro pre W W' row ⟨⟨⟨h4, h5⟩, h6⟩, T, h7, h8⟩ hg hr
  refine ⟨⟨⟨holdsRow_own g g 29 51 11 (fun pre => pre.length) (fun pre => bunCells pre) (fun pre v => v = .slice none 0 0 ↔ pre = []) pre W W' row h4 hg (fun r e => (hr r e).2), ?_⟩, ?_⟩, T, h7.grownN hg (fun r e => ⟨by have := (hr r e).1; omega, (hr r e).2⟩), h8⟩
  · obtain ⟨v, hv, _⟩ := h4
    exact h5.trans (KpO.grownN hv hg (fun r e => (hr r e).2))
  · exact h6.grown hg (Nat.le_trans h3 h6.size) (fun k hk => Nat.le_trans h2 (hr k hk).1)
end Go.Proofs.Ythcgiacjmfmamaa.PA
