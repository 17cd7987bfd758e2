/-
  The law QueryEach returns true for every input, and its arguments read behind the call as before: no condition.
-/
import Derived.Test.YthcgiacjmfmamaaMX
import Derived.Test.YthcgiacjmfmamaaMN
import Derived.Deep.RegionHeld3
import Derived.Stop.RegionWithIn
import Derived.Test.YthcgiacjmfmamaaMW
namespace Go.Proofs.Ythcgiacjmfmamaa.PA
set_option linter.unusedVariables false
set_option linter.unusedSimpArgs false
open Go.RowKit Go.Shelf Go.Proofs.YthcgiacjmfmamaaW.PrintWords
attribute [local go_sem] Oper.semAt_some
theorem law_alle (w : World) {b : Nat} {A : Option Addr} {c : Nat} {L M : List TB} (h : Mst w b A c L M) (qa qn : Int) (m : Nat) (hm : m < 100000) {l : List TB} (hl : l = (ofI qa qn M).take m) :
    Calls Try.prog 33 #[.pointer (some ⟨b, 0, none⟩), .agg #[.int .i64 qa, .int .i64 qn], .int .i64 m] w (BunsIs w l) := by
  obtain ⟨base, hh⟩ := h.holds
  have ho := ofI_small h.lst qa qn
  refine (callsIn_wide.1 (all_x w hh h.len qa qn m hm (ofI qa qn M) (fun L' hT => ids_one h.perm h.lst.dist qa qn hT) (by omega))).mono ?_
  rintro e w' ⟨v, rfl, hb, hA⟩
  rw [← hl] at hA
  obtain ⟨A1, c1, rfl, hc1, hC1⟩ := hA.reads (by rw [hl, List.length_take]; omega)
  exact ⟨A1, c1, rfl, hb, hc1, hC1⟩
theorem c_take {α : Type} {d : Kd α} {w : World} {A : Option Addr} {xs : List α} {m : Nat} (h : Kd.C d w A xs.length xs) : Kd.C d w A (xs.take m).length (xs.take m) := by
  refine ⟨rfl, by have := h.2.1; rw [List.length_take]; omega, fun h0 => ?_⟩
  rw [List.length_take] at h0
  obtain ⟨ad, e, hc⟩ := h.2.2 (by omega)
  refine ⟨ad, e, fun j p hj => hc j p ?_⟩
  rw [List.getElem?_take] at hj
  split at hj
  · exact hj
  · cases hj
theorem law_samek (w : World) {A B : Option Addr} {c d k : Nat} {l l' : List TB} (hk : l.length = k) (hC : Kd.C k51 w A l.length l) (hc : l.length ≤ c) (hD : Kd.C k51 w B l'.length l') (hl' : l = l'.take k) (hd : k ≤ d) (hl : l.length < 10000) :
    Calls Try.prog 32 #[.slice A l.length c, .slice B k d] w fun e w' => e = .returned (.bool true) ∧ Below w.heap.size w w' := by
  subst hk
  have h2 := c_take (m := l.length) hD
  rw [← hl'] at h2
  exact law_sameb w hC hc h2 hd hl
theorem law_refofR (w : World) {A : Option Addr} {c : Nat} {M : List TB} (hC : Kd.C k51 w A M.length M) (h : Mlist M) (hc : M.length ≤ c) {qa : Int} (ha : wfI qa) (qn : Int) :
    Calls Try.prog 31 #[.slice A M.length c, .agg #[.int .i64 qa, .int .i64 qn]] w fun e w' => ∃ v, e = .returned v ∧ Below w.heap.size w w' ∧ ∃ bs ok, Kd.R k51 51 w' bs ok v (ofI qa qn M) := by
  have hl := h.len
  obtain ⟨k0, hk⟩ := of_eq ha qn M (by omega) (fun x hx => (h.ok x hx).wfm)
  have hk0 : hedgerowref12_Of.f k0 M qa qn = some (ofI qa qn M) := hk k0 (Nat.le_refl _)
  refine (hedgerowref12_Of.calls k0 A c M qa qn _ w hC hc hk0).mono ?_
  rintro e w' ⟨v, rfl, hR, hb⟩
  exact ⟨v, rfl, hb, _, _, hR⟩
/-- What the inner loop holds behind i removals. -/
structure JE (wB W : World) (g base b mb : Nat) (M : List TB) (v : Value) (pre : List TB) (i : Nat) (wr : World) : Prop where
  box : Boxed wr g 29 v
  row : wr.ownsRow g 51 11 v pre.length (bunCells pre)
  kp : KpO (OwnE g base) W wr
  kf : KeepsFrom wB.heap.size W wr
  bl : Below base wB wr
  st : ∃ T, StoM wr base b mb T ∧ ((toL T).Perm (M.drop i) ∨ toL T = [])
theorem JE.step {wB W wr w' : World} {g base b mb : Nat} {M : List TB} {v : Value} {pre : List TB} {i : Nat} (h : JE wB W g base b mb M v pre i wr) (hmb : mb < wB.heap.size) (K : KeepsM mb base wr w') (hs : ∃ T, StoM w' base b mb T ∧ ((toL T).Perm (M.drop (i + 1)) ∨ toL T = [])) : JE wB W g base b mb M v pre (i + 1) w' :=
  ⟨K.kept _ _ h.box rfl, own_move h.row (fun k hk => by
    obtain ⟨cells, hc⟩ := own_typed h.row k hk
    rw [hc]; exact K.kept _ _ hc rfl), h.kp.trans (KpO.ofKeeps h.box K.k), h.kf.trans ⟨K.size, fun k o hB hk hc => K.maps k o (by omega) hk hc⟩, h.bl.trans K.k.below, hs⟩
/-- A removal in the inner loop. -/
theorem remove_either (w : World) {base b mb : Nat} {T : Nat → List TB} {M : List TB} {i : Nat} (h : StoM w base b mb T) (hbase : base ≤ w.heap.size) (hM : Mlist M) (hi : i < M.length) (hT : (toL T).Perm (M.drop i) ∨ toL T = []) :
    Calls Try.prog 36 #[.pointer (some ⟨b, 0, none⟩), .agg #[.int .i64 M[i].f0.f0, .int .i64 M[i].f0.f1, .int .i64 M[i].f0.f2]] w fun e w' => (∃ r, e = .returned (.bool r)) ∧ KeepsM mb base w w' ∧ ∃ T2, StoM w' base b mb T2 ∧ ((toL T2).Perm (M.drop (i + 1)) ∨ toL T2 = []) := by
  have hd : M.drop i = M[i] :: M.drop (i + 1) := List.drop_eq_getElem_cons hi
  rcases hT with hT | hT
  · refine (remove_yesM w h hbase (by rw [hT.length_eq, List.length_drop]; have := hM.len; omega) M[i] (hT.mem_iff.2 (by rw [hd]; exact List.mem_cons_self))).mono ?_
    rintro e w' ⟨rfl, hK, T2, hS, hP⟩
    refine ⟨⟨_, rfl⟩, hK, T2, hS, .inl ?_⟩
    have h1 := hP.trans hT
    rw [hd] at h1
    exact List.Perm.cons_inv h1
  · refine (remove_no w h.sto M[i].f0 (hM.ok _ (List.getElem_mem hi)).wf (by rintro ⟨y, hy, _⟩; rw [hT] at hy; cases hy)).mono ?_
    rintro e w' ⟨rfl, hb⟩
    exact ⟨⟨_, rfl⟩, KeepsM.of_below hbase hb, T, h.below hb, .inr hT⟩
set_option maxRecDepth 100000 in
set_option maxHeartbeats 8000000 in
theorem laweach_x (w : World) (A0 : Option Addr) (c0 : Nat) (l0 : List TB) (hC0 : Kd.C k51 w A0 l0.length l0) (qa qn most : Int) (ha : wfI qa) :
    Calls Try.prog 12 #[.slice A0 l0.length c0, .agg #[.int .i64 qa, .int .i64 qn], .int .i64 most] w fun e w' => e = .returned (.bool true) ∧ Below w.heap.size w w' := by
  have hnf : ∀ (W : World) (x : Array Value), (binOp .eql 69 (.func (.func 58) #[] x) .nilFunc).run Try.prog W = .ok (.bool false) W := fun W x => by kernel_rfl
  have HC0 := Aside0.mk hC0
  have HA := Aside0.mk ha
  clear hC0 ha
  refine (callsIn_wide (n := 5)).1 ?_
  refine callsIn_of_wp_marks Try.func12 rfl trivial ?_ rfl
  refine wpIn_wide.2 ?_
  simp only [Try.ntmps12, List.size_toArray, List.length_cons, List.length_nil, Nat.reduceAdd, Nat.reduceSub, Array.replicate_succ, Array.replicate_zero, List.push_toArray, List.append_toArray, List.nil_append, List.cons_append]
  obtain ⟨w1, hw1⟩ : ∃ w1, w1 = w.alloc (.cells #[.int .i64 qa, .int .i64 qn] 23) := ⟨_, rfl⟩
  have hb1 : Below w.heap.size w w1 := by rw [hw1]; exact below_alloc (Below.refl _ _) _
  have bq : w1.heap[w.heap.size]? = some (.cells #[.int .i64 qa, .int .i64 qn] 23 (0, 0)) := by rw [hw1]; exact heap_alloc_new w _
  have HB1 := Aside0.mk hb1
  have HBQ1 := Aside0.mk bq
  clear hb1 bq
  go_wp2_with fail
  rw [← hw1]
  clear hw1
  refine (awake_x w1).mono ?_
  rintro e wa ⟨rfl, hba⟩
  have HBA := Aside0.mk (HB1.out.trans (hba.mono HB1.out.size))
  have HBQA := Aside0.mk ((hba.block _ (blk_lt HBQ1.out)).trans HBQ1.out)
  clear hba HB1 HBQ1
  go_wp2_with fail
  refine (made_x wa A0 c0 l0 (Kd.C_below HC0.out HBA.out)).mono ?_
  rintro e wm ⟨b, T, v, rfl, hM⟩
  obtain ⟨M, hMe⟩ : ∃ M, M = madeL (l0.take 60) := ⟨_, rfl⟩
  have hml : Mlist M := by rw [hMe]; exact mlist l0
  rw [← hMe] at hM
  obtain ⟨A, c, hv, hc, hCM⟩ := (ARow.of_own hM.row hM.nil).reads (by have := hml.len; omega)
  have hAM := ARow.of_own hM.row hM.nil
  rw [hv] at hAM
  subst hv
  have HSM := Aside0.mk hM.sto
  have HPM := Aside0.mk hM.perm
  have HML := Aside0.mk hml
  have HAM := Aside0.mk hAM
  have HBM := Aside0.mk hM.below
  have hbq := (hM.below.block _ (blk_lt HBQA.out)).trans HBQA.out
  have HBQM := Aside0.mk hbq
  have HCC := Aside0.mk hc
  clear hMe hml hM hc hCM hAM hbq HBQA HC0
  have q0 : wm.cell? ⟨w.heap.size, 0, none⟩ = some (.int .i64 qa) := (blk_cell HBQM.out 0).trans rfl
  have q1 : wm.cell? ⟨w.heap.size, 1, none⟩ = some (.int .i64 qn) := (blk_cell HBQM.out 1).trans rfl
  have hwl := World.block_lt_of_cell? wm _ q0
  have hof := fun (W : World) (h : Kd.C k51 W A M.length M) => law_refofR W h HML.out HCC.out HA.out qn
  go_wp2_with fail
  obtain ⟨w2, hw2⟩ : ∃ w2, w2 = (wm.alloc (.cells #[.pointer (some ⟨b, 0, none⟩)] 32)).alloc (.cells #[.slice A M.length c] 29) := ⟨_, rfl⟩
  rw [← hw2]
  have hb2 : Below wm.heap.size wm w2 := by rw [hw2]; exact below_alloc (below_alloc (Below.refl _ _) _) _
  have bS : Boxed w2 wm.heap.size 32 (.pointer (some ⟨b, 0, none⟩)) := by rw [hw2]; exact (Boxed.new wm 32 _).alloc _
  have bT : Boxed w2 (wm.heap.size + 1) 29 (.slice A M.length c) := by
    have := Boxed.new (wm.alloc (.cells #[.pointer (some ⟨b, 0, none⟩)] 32)) 29 (.slice A M.length c)
    rw [World.size_alloc] at this
    rw [hw2]; exact this
  obtain ⟨s, hs⟩ : ∃ s, s = wm.heap.size := ⟨_, rfl⟩
  rw [← hs] at bS bT ⊢
  have hz2 : w2.heap.size = s + 2 := by rw [hw2, hs]; simp
  have HS := Aside0.mk hs
  have HZ2 := Aside0.mk hz2
  have HBS2 := Aside0.mk bS
  have HBT2 := Aside0.mk bT
  have HB2 := Aside0.mk hb2
  have HBQ2 := Aside0.mk ((hb2.block _ (blk_lt HBQM.out)).trans HBQM.out)
  have HM2 := Aside0.mk (HAM.out.below hb2)
  have hcm := HM2.out.reads (by have := HML.out.len; omega)
  obtain ⟨A', c', he, hcc', hcm⟩ := hcm
  injection he with he1 he2 he3
  subst he1
  refine (hof w2 hcm).mono ?_
  rintro e w3 ⟨vw, rfl, hb3, hR⟩
  obtain ⟨want, hwant⟩ : ∃ want, want = ofI qa qn M := ⟨_, rfl⟩
  have hwl60 : want.length ≤ 60 := by rw [hwant]; exact ofI_small HML.out qa qn
  rw [← hwant] at hR
  obtain ⟨bsw, okw, hR⟩ := hR
  obtain ⟨Aw, cw, rfl, hcw, hCw⟩ := Kd.R_reads hR
  have HWANT := Aside0.mk hwant
  have HR3 := Aside0.mk hR
  have HB3 := Aside0.mk (HB2.out.trans (hb3.mono HB2.out.size))
  have HBQ3 := Aside0.mk ((hb3.block _ (blk_lt HBQ2.out)).trans HBQ2.out)
  have HBS3 := Aside0.mk (HBS2.out.kept (grown_below hb3) (by simp))
  have HBT3 := Aside0.mk (HBT2.out.kept (grown_below hb3) (by simp))
  have HM3 := Aside0.mk (HM2.out.below hb3)
  have HCW := Aside0.mk hcw
  have HCW3 := Aside0.mk hCw
  have hsl3 : s < w3.heap.size := HBS3.out.lt
  have hml := HML.out.len
  have HMS : Aside0 (Mst w3 b A c (toL T) M) := Aside0.mk ⟨⟨wa.heap.size, .inr ⟨b, T, rfl, HSM.out.below HB3.out, rfl⟩⟩, HPM.out, HML.out, Kd.C_below hcm hb3, HCC.out⟩
  have d0 : -70 < most.tmod 70 := by
    have := Int.tmod_lt_of_pos (-most) (b := 70) (by decide)
    rw [Int.neg_tmod] at this
    omega
  have d1 : most.tmod 70 < 70 := Int.tmod_lt_of_pos most (by decide)
  have d2 : 0 ≤ (most.tmod 70 + 70).tmod 70 := Int.tmod_nonneg _ (by omega)
  have d3 : (most.tmod 70 + 70).tmod 70 < 70 := Int.tmod_lt_of_pos _ (by decide)
  clear hof hcm hcc' he2 he3 hb3 hR hwant q0 q1 hwl hw2 hb2 bT bS hs hz2 hCw
  go_upto_region 6 with (fail)
  obtain ⟨m, hm⟩ : ∃ m : Nat, (most.tmod 70 + 70) % 70 = (m : Int) := ⟨((most.tmod 70 + 70) % 70).toNat, by omega⟩
  rw [hm]
  obtain ⟨k, hk⟩ : ∃ k, k = min m want.length := ⟨_, rfl⟩
  have hmn : ∀ W : World, (Builtin.min_ #[3, 3] 3 #[.int .i64 (m : Int), .int .i64 (want.length : Int)]).run Try.prog W = .ok (.int .i64 (k : Int)) W := fun W => by
    have e : (if (want.length : Int) < (m : Int) then (want.length : Int) else (m : Int)) = (k : Int) := by split <;> omega
    rw [← e]
    go_simp
  have k1 : (k : Int) ≤ (cw : Int) := by have := HCW.out; omega
  have k0 : (0 : Int) ≤ (k : Int) := by omega
  have k2 : k ≤ want.length := by omega
  obtain ⟨l1, hl1⟩ : ∃ l1, l1 = want.take m := ⟨_, rfl⟩
  have hlk : l1.length = k := by rw [hl1, List.length_take, hk]
  have HL1 : Aside0 (l1 = (ofI qa qn M).take m) := Aside0.mk (by rw [hl1, HWANT.out])
  have HK2 : Aside0 (l1 = want.take k) := Aside0.mk (by rw [hl1, hk]; rcases Nat.le_total m want.length with h | h; · rw [Nat.min_eq_left h]
                                                        · rw [Nat.min_eq_right h, List.take_length, List.take_of_length_le h])
  have HM70 : Aside0 (m < 70) := Aside0.mk (by omega)
  have HLK := Aside0.mk hlk
  have HK := Aside0.mk k2
  have F0 := Aside0.mk HBS3.out.cell
  have F1 : Aside0 (w3.cell? ⟨w.heap.size, 0, none⟩ = some (.int .i64 qa)) := Aside0.mk ((blk_cell HBQ3.out 0).trans rfl)
  have F2 : Aside0 (w3.cell? ⟨w.heap.size, 1, none⟩ = some (.int .i64 qn)) := Aside0.mk ((blk_cell HBQ3.out 1).trans rfl)
  clear d0 d1 d2 d3 hm hk hl1 hlk k2
  go_cut [39] from 28 to 39 (fun v39 wc => v39 = .bool false ∧ Below w3.heap.size w3 wc)
  case first =>
    go_region_held3 (fun W' => (W'.cell? ⟨s, 0, none⟩ = some (.pointer (some ⟨b, 0, none⟩)) ∧ W'.cell? ⟨w.heap.size, 0, none⟩ = some (.int .i64 qa) ∧ W'.cell? ⟨w.heap.size, 1, none⟩ = some (.int .i64 qn)) ∧ Below w3.heap.size w3 W')
      (first | assumption | exact zk3b F0.out F1.out F2.out (by assumption) (by assumption) | exact zk3a F0.out F1.out F2.out (by first | exact Below.refl _ _ | exact below_drew (Below.refl _ _)))
      (first
        | (go_at_call 33; (with_reducible refine (law_alle _ (mst_held (by assumption) HMS.out) qa qn m (by have := HM70.out; omega) HL1.out).mono ?_); rintro e w' ⟨Ad, cd, rfl, hbd, hcd, hCd⟩; have HCd := Aside0.mk hCd; have Hcd := Aside0.mk hcd; clear hCd hcd)
        | (go_at_call 32; (with_reducible refine (law_samek _ HLK.out HCd.out Hcd.out (Kd.C_below HCW3.out (held_b (by assumption))) HK2.out (by have := HCW.out; have := HK.out; omega) (by have := HLK.out; have := HK.out; omega)).mono ?_); rintro e w' ⟨rfl, hbs⟩))
    all_goals
      rename_i hS
      have hE4 := Aside0.mk hS.2
      clear hS
      go_wp2
      go_meet
      exact ⟨rfl, hE4.out⟩
  case rest =>
    obtain ⟨rfl, hb4⟩ := hcut
    have HE4 := Aside0.mk hb4
    have s0 := cell_b hb4 F0.out
    have q0 := cell_b hb4 F1.out
    have q1 := cell_b hb4 F2.out
    have hsl4 := World.block_lt_of_cell? _ _ s0
    have hql4 := World.block_lt_of_cell? _ _ q0
    clear hb4 hmn k1 k0 hcw hsl3 HL1 HK2 HM70 HLK HK F0 F1 F2
    go_wp2_with fail
    refine ((callsIn_wide (n := 5)).1 (each_in Fence.wide rfl 5 (some ⟨b, 0, none⟩) qa qn _)).mono ?_
    rintro e wB ⟨rfl, hwB⟩
    obtain ⟨g, hg⟩ : ∃ g, g = wc.heap.size := ⟨_, rfl⟩
    have hbB : Below wc.heap.size wc wB := by rw [hwB]; exact below_alloc (below_alloc (below_alloc (Below.refl _ _) _) _) _
    have hzB : wB.heap.size = g + 3 := by rw [hwB, hg]; simp
    have bG : Boxed wB g 29 (.slice none 0 0) := by rw [hwB, hg]; exact ((Boxed.new wc 29 _).alloc _).alloc _
    have bS : Boxed wB (g + 1) 32 (.pointer (some ⟨b, 0, none⟩)) := by
      have := Boxed.new (wc.alloc (Obj.cells #[Value.slice none 0 0] 29)) 32 (.pointer (some ⟨b, 0, none⟩))
      rw [World.size_alloc, ← hg] at this
      rw [hwB]; exact this.alloc _
    have bQ : wB.heap[g + 2]? = some (.cells #[.int .i64 qa, .int .i64 qn] 23 (0, 0)) := by
      have := heap_alloc_new ((wc.alloc (Obj.cells #[Value.slice none 0 0] 29)).alloc (Obj.cells #[Value.pointer (some ⟨b, 0, none⟩)] 32)) (Obj.cells #[Value.int IntKind.i64 qa, Value.int IntKind.i64 qn] 23)
      rw [World.size_alloc, World.size_alloc, ← hg] at this
      rw [hwB]; exact this
    have hsz1 : (wc.alloc (Obj.cells #[Value.slice none 0 0] 29)).heap.size = g + 1 := by rw [World.size_alloc, ← hg]
    rw [hsz1, ← hg]
    have HB3B : Aside0 (Below w3.heap.size w3 wB) := Aside0.mk (HE4.out.trans (hbB.mono HE4.out.size))
    have HSB := Aside0.mk (HBS3.out.kept (grown_below HB3B.out) (by simp))
    have HTB := Aside0.mk (HBT3.out.kept (grown_below HB3B.out) (by simp))
    have HMB := Aside0.mk (HM3.out.below HB3B.out)
    have HRB := Aside0.mk (Kd.R_below HR3.out HB3B.out)
    have HMSB := Aside0.mk (HMS.out.below HB3B.out)
    have HBwB : Aside0 (Below wm.heap.size wm wB) := Aside0.mk (HB3.out.trans (HB3B.out.mono HB3.out.size))
    obtain ⟨mb, hsm⟩ := (HSM.out.below HBwB.out).m
    have HSMB := Aside0.mk hsm
    have hmb := hsm.mb_lt
    have HMBL := Aside0.mk hmb
    have HBG := Aside0.mk bG
    have HBS := Aside0.mk bS
    have HBQ := Aside0.mk bQ
    have HZB := Aside0.mk hzB
    have HGW : Aside0 (w.heap.size ≤ g ∧ w.heap.size ≤ wa.heap.size ∧ wa.heap.size ≤ wB.heap.size ∧ Below w.heap.size w wB) := Aside0.mk (by
      have h1 := HBA.out.size
      have h2 := HBM.out.size
      have h3 := HBwB.out.size
      have h4 := HE4.out.size
      have h5 := HB3.out.size
      exact ⟨by omega, h1, by omega, HBA.out.trans ((HBM.out.trans (HBwB.out.mono HBM.out.size)).mono h1)⟩)
    have HGA : Aside0 (wa.heap.size ≤ g) := Aside0.mk (by
      have h2 := HBM.out.size
      have h4 := HE4.out.size
      have h5 := HB3.out.size
      omega)
    have HSG : Aside0 (s + 1 < g) := Aside0.mk (by
      have h2 := HBT3.out.lt
      have h4 := HE4.out.size
      omega)
    clear hwB hg hbB hzB bG bS bQ hsz1 hsm hmb s0 q0 q1 hsl4 hql4 HB3B HR3 HM3 HBS3 HBT3 HBQ3 HMS HE4 HCW3 HB3 HBQ2 HM2 HBT2 HBS2 HB2 HZ2 HS HBQM HBwB HSM HAM HBM
    rw [show g + 1 + 1 = g + 2 by omega]
    go_wp2
    have HSQ : Aside0 (SeqStopsK Fence.wide 4 Try.prog 58 #[.pointer (some ⟨g + 1, 0, none⟩), .pointer (some ⟨g + 2, 0, none⟩)] encB (KpO (OwnE g wa.heap.size)) (fun ys => ys = want) (fun pre => pre <+: want) want.length wB) := Aside0.mk (by
      obtain ⟨bs0, hh⟩ := HMSB.out.holds
      exact each2_stops Fence.wide rfl 4 (by decide) wB hh HMSB.out.len qa qn (g + 1) (g + 2) g wa.heap.size HBS.out HBQ.out HBG.out want (fun L' hT => by rw [HWANT.out]; exact ids_one HMSB.out.perm HML.out.dist qa qn hT))
    refine (wpIn_wide (n := 5)).1 ?_
    refine wpIn_rangeFunc_ownH (F := Fence.wide) rfl (by decide) (gf := 58) (lb := #[.pointer (some ⟨g + 1, 0, none⟩), .pointer (some ⟨g + 2, 0, none⟩)]) rfl trivial (enters_of Try.func58 (by kernel_rfl) rfl)
      HSQ.out KpO.trans (fun W l o o' hl ho hc hw => KpO.ofL (KpO.put (Bl := g) (N := wB.heap.size) (by have := HZB.out; omega) W l o o' hl ho hc)) (Below.refl _ _) (fun _ => rfl)
      (IE wB g wa.heap.size b mb M) (fun _ _ _ => False) (IE_own wB g wa.heap.size b mb wB.heap.size M HMBL.out HGW.out.2.2.1 HGW.out.2.2.1) (fun _ _ _ _ _ h _ _ => h)
      ⟨⟨⟨⟨_, HBG.out, World.ownsRow_nil _ _ _ _, by simp⟩, KpO.quiet _⟩, Below.refl _ _⟩, T, HSMB.out, .inl ⟨rfl, HPM.out⟩⟩
      (fun x a' W => ∃ Bx, wB.heap.size ≤ Bx ∧ W.heap[Bx]? = some (.cells (cellsB x) 51 (0, 0)) ∧ a' = { tmps := #[Value.slice A0 l0.length c0, Value.agg #[Value.int .i64 qa, Value.int .i64 qn], Value.int .i64 (m : Int), undef, Value.pointer (some ⟨w.heap.size, 0, none⟩), undef, Value.bool false, Value.pointer (some ⟨s, 0, none⟩), Value.pointer (some ⟨s + 1, 0, none⟩), Value.slice Aw want.length cw, Value.pointer (some ⟨g, 0, none⟩), Value.func (Fn.func 58) #[] #[Value.pointer (some ⟨g + 1, 0, none⟩), Value.pointer (some ⟨g + 2, 0, none⟩)], Value.pointer (some ⟨Bx, 0, none⟩), undef, Value.bool true, Value.bool false, Value.tuple #[Value.pointer (some ⟨b, 0, none⟩), Value.slice A M.length c], Value.slice A0 l0.length c0, Value.tuple #[Value.pointer (some ⟨b, 0, none⟩), Value.slice A M.length c], Value.pointer (some ⟨b, 0, none⟩), Value.slice A M.length c, Value.slice A M.length c, Value.agg #[Value.int .i64 qa, Value.int .i64 qn], Value.slice Aw want.length cw, Value.int .i64 most, Value.int .i64 (most.tmod 70), Value.int .i64 (most.tmod 70 + 70), Value.int .i64 (m : Int), u28, u29, u30, u31, u32, u33, u34, u35, u36, u37, u38, Value.bool false, Value.pointer (some ⟨b, 0, none⟩), Value.agg #[Value.int .i64 qa, Value.int .i64 qn], Value.func (Fn.func 58) #[] #[Value.pointer (some ⟨g + 1, 0, none⟩), Value.pointer (some ⟨g + 2, 0, none⟩)], Value.func (Fn.func 58) #[] #[Value.pointer (some ⟨g + 1, 0, none⟩), Value.pointer (some ⟨g + 2, 0, none⟩)], Value.bool false, Value.func (Fn.func 58) #[] #[Value.pointer (some ⟨g + 1, 0, none⟩), Value.pointer (some ⟨g + 2, 0, none⟩)], bunV x, undef, undef, undef, undef, undef, undef, undef, undef, undef, undef, undef, undef, undef, undef, undef, undef, undef, undef, undef, undef, undef, undef, undef, undef, undef, undef, undef, undef, undef, undef, undef, undef, undef], defers := [] })
      ?hAx ?assign ?body ?done ?stop
    case hAx =>
      rintro x a' u W W' row ⟨Bx, g1, g2, g3⟩ hg hr
      exact ⟨Bx, g1, (Own.from (block_own (β := Unit) Bx (cellsB x) 51) _) u W W' row g2 hg hr, g3⟩
    case assign =>
      rintro l pre x W K hi' hK
      unfold encB
      gi_wp2
      obtain ⟨v, hv, _⟩ := hi'.1.1.1
      have hle := hi'.1.1.2.1
      exact hK _ _ ((KeepsOthers.alloc _ _).from _) (KpO.grownN hv (World.grownBy_alloc W _ none) (fun _ e => by cases e)) (OwnFrom.alloc (IE_own wB g wa.heap.size b mb wB.heap.size M HMBL.out HGW.out.2.2.1 HGW.out.2.2.1) _ hi') ⟨W.heap.size, hle, heap_alloc_new W _, rfl⟩
    case body =>
      rintro l pre x a' W hl hr ⟨⟨⟨⟨v, hv, hrow, hnil⟩, hkp⟩, hB⟩, T', hS', hT'⟩ ⟨Bx, hBx, hbx, rfl⟩ hlt
      obtain ⟨i0, hi, hz0, hz1, hz2⟩ := info_parts info51
      have hbx' : W.heap[Bx]? = some (.cells #[.int .i64 x.f0.f0, .int .i64 x.f0.f1, .int .i64 x.f0.f2, .int .i64 x.f1, .int .i64 x.f2, .int .i64 x.f3, .int .i64 x.f4, .int .i64 x.f5, .int .i64 x.f6, .int .i64 x.f7, .int .i64 x.f8] 51 (0, 0)) := hbx
      obtain ⟨x0, x1, x2, x3, x4, x5, x6, x7, x8, x9, x10⟩ := box11 hbx'
      obtain ⟨Av, cv, rfl⟩ := own_slice hrow
      have cL := hv.cell
      have hs2 : g ≤ W.heap.size := by have := hkp.1; have := HZB.out; omega
      have HNIL := Aside0.mk hnil
      have HKP := Aside0.mk hkp
      have HBB := Aside0.mk hB
      have HST := Aside0.mk hS'
      have HTT := Aside0.mk hT'
      have HBX := Aside0.mk hBx
      clear hnil hkp hB hS' hT' hBx hbx hbx' hr
      gi_wp2_with (gi_at_builtin; go_loud (refine wpListIn_append_own_at _ rfl _ _ 29 rfl g 51 i0 _ 11 88 Try.underlying29 hi hz0 hz1 hz2 rfl (by decide) _ _ _ rfl (hrow.alloc _) ⟨W.heap.size, 0, none⟩ 1 1 (bunCells [x]) rfl (bunCells_length [x]) (new_cells _ (cellsB x) _) (bunCells_one [x]) (by unfold maxLen; omega) (by omega) (by simp; omega) ?_; intro v' w1 hown' hgrow _ hat; obtain ⟨g', cap', rfl⟩ := ownsRow_succ hown'; obtain ⟨hv1, hv3, hr2, hk2, hb3⟩ := hv.appended (by decide) hrow hs2 (by omega) hown' hgrow; have hc1 := hv1.cell; have hf1 := hv1.frozen))
      have hkpL := KpO.ofL (base := wa.heap.size) (KpO.append hv hv1 hgrow hat)
      have hSA : StoM (w1.setCell ⟨g, 0, none⟩ (.slice (some ⟨g', 0, none⟩) (pre.length + 1) cap')) wa.heap.size b mb T' := by
        refine StoM.grownC (StoM.grownC (row := (Value.slice Av pre.length cv).ownBlock) (HST.out.below (below_alloc (Below.refl _ _) _)) hgrow (fun k e => ?_)) (grownBy_set w1 ⟨g, 0, none⟩ _) (fun k e => ?_)
        · obtain ⟨cells, hc⟩ := own_typed (hrow.alloc _) k e
          exact ⟨cells, _, hc, by decide, by decide, by decide⟩
        · cases e
          exact ⟨_, _, hv1, by decide, by decide, by decide⟩
      have hJ0 : JE wB W g wa.heap.size b mb M (.slice (some ⟨g', 0, none⟩) (pre.length + 1) cap') (pre ++ [x]) 0 (w1.setCell ⟨g, 0, none⟩ (.slice (some ⟨g', 0, none⟩) (pre.length + 1) cap')) :=
        ⟨hv3, by rw [List.length_append, bunCells_append]; exact hr2, hkpL, hk2.from _, HBB.out.trans (hb3.mono HGA.out), T', hSA, by
          rcases HTT.out with ⟨_, e⟩ | e
          · exact .inl (by rw [List.drop_zero]; exact e)
          · exact .inr e⟩
      obtain ⟨WA, hWA⟩ : ∃ WA, WA = w1.setCell ⟨g, 0, none⟩ (.slice (some ⟨g', 0, none⟩) (pre.length + 1) cap') := ⟨_, rfl⟩
      rw [← hWA] at hJ0 ⊢
      have HJ0 := Aside0.mk hJ0
      clear hJ0 hWA hkpL hSA hv hrow cL hv1 hv3 hr2 hk2 hb3 hat hgrow hc1 hf1 x0 x1 x2 x3 x4 x5 x6 x7 x8 x9 x10
      gi_loopw [13] (fun v13 wr => ∃ i : Nat, v13 = .int .i64 i ∧ i ≤ M.length ∧ Aside0 (JE wB W g wa.heap.size b mb M (.slice (some ⟨g', 0, none⟩) (pre.length + 1) cap') (pre ++ [x]) i wr)) (fun v13 _ => M.length - (intOf v13).toNat)
      case atStart => exact ⟨0, rfl, Nat.zero_le _, HJ0⟩
      case round =>
        clear HJ0
        obtain ⟨i, rfl, hi, HJ⟩ := hrel
        have hkp := HKP.out.trans HJ.out.kp
        have c1 := (show Boxed wr (s + 1) 29 (.slice A M.length c) from hkp.cell HTB.out (OwnE.free' HBG.out HTB.out (by have := HSG.out; omega) rfl)).cell
        have c2 := (show Boxed wr s 32 (.pointer (some ⟨b, 0, none⟩)) from hkp.cell HSB.out (OwnE.free HBG.out HSB.out (by decide) rfl)).cell
        by_cases hlti : i < M.length
        · have hA : AOwn (OwnE g wa.heap.size) wB (.slice A M.length c) M := ⟨_, HMB.out, fun k e => by
            obtain ⟨cs, hcs⟩ := HMB.out.typed k e
            exact OwnE.free HBG.out hcs (by decide) rfl⟩
          have hCM := (hA.kept hkp).reads (by omega)
          obtain ⟨ad, hA1, y0, y1, y2, y3, y4, y5, y6, y7, y8, y9, y10⟩ := cells_of (Below.refl _ wr) hCM i hlti
          subst hA1
          have g1 : (i : Int) < (M.length : Int) := by omega
          have g0 : (0 : Int) ≤ (i : Int) := by omega
          obtain ⟨T1, hS1, hT1⟩ := HJ.out.st
          have hbw : wa.heap.size ≤ wr.heap.size := Nat.le_trans HGW.out.2.2.1 HJ.out.bl.size
          have hrem := fun (Wx : World) (hb : Below wr.heap.size wr Wx) => remove_either Wx (hS1.below hb) (Nat.le_trans hbw hb.size) HML.out hlti hT1
          obtain ⟨z, hz⟩ : ∃ z, z = M[i] := ⟨_, rfl⟩
          rw [← hz] at y0 y1 y2 hrem
          have HREM := Aside0.mk hrem
          have HBW := Aside0.mk hbw
          clear hA hCM y3 y4 y5 y6 y7 y8 y9 y10 hrem hbw hz hS1 hT1 hkp
          gi_wp2
          gi_region_with (refine And.intro trivial ?_; (with_reducible refine (CallsIn.inRound l (wide_calls rfl (HREM.out _ (by first | exact Below.refl _ _ | exact below_drew (Below.refl _ _) | exact pw_below_drewN (Below.refl _ _) _)))).mono ?_); rintro e w2 ⟨⟨r, rfl⟩, hK2, hT2⟩)
          all_goals
            have HJ2 := Aside0.mk (HJ.out.step HMBL.out ((KeepsM.of_below HBW.out (by first | exact Below.refl _ _ | exact below_drew (Below.refl _ _) | exact pw_below_drewN (Below.refl _ _) _)).trans hK2 HBW.out) hT2)
            clear hK2 hT2 y0 y1 y2 c1 c2
            gi_wp2
            go_roundw
            case rel => exact ⟨i + 1, by go_num, hlti, HJ2⟩
            case measure =>
              have e9 : IntKind.i64.wrap ((i : Int) + 1) = (i : Int) + 1 := IntWalk.i64_in _ (by omega)
              simp [intOf, e9]; omega
        · have g1 : ¬ (i : Int) < (M.length : Int) := by omega
          have hx : pre ++ [x] ≠ [] := by simp
          have HKW := Aside0.mk hkp
          have HHX := Aside0.mk hx
          clear hkp hx
          gi_wp2
          refine ⟨HJ.out.kf, HJ.out.kp, ⟨⟨⟨_, HJ.out.box, HJ.out.row, by simp⟩, HKW.out⟩, HJ.out.bl⟩, ?_⟩
          obtain ⟨T2, hS2, hT2⟩ := HJ.out.st
          refine ⟨T2, hS2, .inr ?_⟩
          rcases hT2 with h | h
          · rw [List.drop_of_length_le (by omega)] at h
            exact List.perm_nil.1 h
          · exact h
    case done =>
      rintro D ys W hD hys hI hK
      obtain ⟨⟨⟨⟨v, hv, hrow, hnil⟩, hkp⟩, hB⟩, T', hS', hT'⟩ := hI
      subst hys
      obtain ⟨Ag, cg, rfl, hcg, hCg⟩ := (ARow.of_own hrow hnil.2).reads (by omega)
      obtain ⟨A', c', he, hc', hCw⟩ := R_kpo HRB.out HBG.out hkp
      injection he with he1 he2 he3
      subst he1
      have hcell := hv.cell
      have hss : Boxed W s 32 (.pointer (some ⟨b, 0, none⟩)) := hkp.cell HSB.out (OwnE.free HBG.out HSB.out (by decide) rfl)
      have hBW : Below w.heap.size w W := HGW.out.2.2.2.trans (hB.mono HGW.out.2.1)
      have HCG := Aside0.mk hCg
      have HCGC := Aside0.mk hcg
      have HCWW := Aside0.mk hCw
      have HSS := Aside0.mk hss
      have HBW := Aside0.mk hBW
      have HKD := Aside0.mk hK
      have HST := Aside0.mk hS'
      have HTT := Aside0.mk hT'
      have HWD : Aside0 (w.heap.size ≤ D) := Aside0.mk (by have := HGW.out.1; have := HZB.out; omega)
      clear hrow hnil hkp hB hS' hT' hcg hCg hc' hCw hss hBW hv he2 he3 hD hK
      go_wp2_with fail
      refine (law_sameb W HCG.out HCGC.out HCWW.out HCW.out (by omega)).mono ?_
      rintro e W1 ⟨rfl, hb1⟩
      have hs1 := (HSS.out.kept (grown_below hb1) (by simp)).cell
      have HKD1 := Aside0.mk ((hb1.block D (blk_lt HKD.out)).trans HKD.out)
      have HBW1 : Aside0 (Below w.heap.size w W1) := Aside0.mk (HBW.out.trans (hb1.mono HBW.out.size))
      have hlen := len_x W1 (HST.out.sto.below hb1)
      clear hb1 hcell
      by_cases h0 : ys.length = 0
      · have t1 : ((ys.length : Int) == 0) = true := by simp [h0]
        have H0 := Aside0.mk h0
        clear h0
        go_wp2_with fail
        refine (awake_x W1).mono ?_
        rintro e W2 ⟨rfl, hb2⟩
        have HKD2 := Aside0.mk ((hb2.block D (blk_lt HKD1.out)).trans HKD1.out)
        have HBW2 := Aside0.mk (HBW1.out.trans (hb2.mono HBW1.out.size))
        go_wp2
        refine ⟨by simp, .inl ⟨_, _, rfl, run_takeDeferred HKD2.out, ?_⟩⟩
        refine ⟨_, results_tmp rfl _ _ _, rfl, ?_⟩
        exact HBW2.out.trans (belowK_b (w := w) (Nat.le_refl _) W2 D _ _ HWD.out HKD2.out rfl rfl)
      · have t1 : ((ys.length : Int) == 0) = false := by simp; exact fun e => h0 (by rw [e]; rfl)
        have ht : toL T' = [] := by
          rcases HTT.out with ⟨e, _⟩ | e
          · exact absurd (by rw [e]; rfl) h0
          · exact e
        rw [ht] at hlen
        clear h0
        go_wp2_with fail
        refine hlen.mono ?_
        rintro e W2 ⟨rfl, hb2⟩
        have HKD2 := Aside0.mk ((hb2.block D (blk_lt HKD1.out)).trans HKD1.out)
        have HBW2 := Aside0.mk (HBW1.out.trans (hb2.mono HBW1.out.size))
        clear hlen hb2 hs1 ht
        go_wp2_with fail
        refine (awake_x W2).mono ?_
        rintro e W3 ⟨rfl, hb3⟩
        have HKD3 := Aside0.mk ((hb3.block D (blk_lt HKD2.out)).trans HKD2.out)
        have HBW3 := Aside0.mk (HBW2.out.trans (hb3.mono HBW2.out.size))
        go_wp2
        refine ⟨by simp, .inl ⟨_, _, rfl, run_takeDeferred HKD3.out, ?_⟩⟩
        refine ⟨_, results_tmp rfl _ _ _, rfl, ?_⟩
        exact HBW3.out.trans (belowK_b (w := w) (Nat.le_refl _) W3 D _ _ HWD.out HKD3.out rfl rfl)
    case stop =>
      rintro D cc ys W hD hys h hK
      exact h.elim
end Go.Proofs.Ythcgiacjmfmamaa.PA

namespace Go.Proofs.Ythcgiacjmfmamaa.QueryEach
open Go.ChangeShapes Go.WideShapes Go.ChangeAt Go.RowKit
open Go.ChangeMaps (open_string shut_string)
set_option linter.unusedVariables false
set_option maxRecDepth 100000 in
theorem lifted (os : Os) (started : os.Started) (H : Type) (enc : TypeId × Value → H) :
    ReturnsInHanded {} Try.checked os 12 .any (Rows.queryEachSpec.pre6 enc Try.prog Try.f12 Rows.queryEachRow.domain false) (Rows.queryEachSpec.post enc Try.prog Try.f12 false true false false) := by
  refine returnsInHanded_of_change_sized (C := Try.checked) PA.own_kn started (by kernel_rfl) Try.func12
    (ChangeSpec.witness6 (enc := enc) (C := Try.checked) false ⟨#[], #[.slice none 0 0, .agg #[.int .i64 0, .int .i64 0], .int .i64 0], []⟩ 8 (by kernel_rfl) (by kernel_rfl) (by kernel_rfl) (by kernel_rfl)) ?_
  intro W base args ds gs before hval0 hW hcnd hsz0 _
  have hval : ∀ (j : Nat) t v, Try.f12.params[j]? = some t → args[j]? = some v → Value.okWide Try.prog W .any base t v := hval0
  have hW' := hW
  obtain ⟨p, q, hA0, hV, rfl, hfz, hnd⟩ := hW
  have hA : DataW.TrodAll enc Try.prog W 0 (fun _ => true) true Try.f12.params.toList args.toList ds p := hA0
  rw [Try.params12] at hA hval
  obtain ⟨v0, vs0, d0, ds0, p0, q0, hargs, rfl, rfl, h0, r0⟩ := trodAll_cons hA
  obtain ⟨v1, vs1, d1, ds1, p1, q1, rfl, rfl, rfl, h1, r1⟩ := trodAll_cons r0
  obtain ⟨v2, vs2, d2, ds2, p2, q2, rfl, rfl, rfl, h2, r2⟩ := trodAll_cons r1
  obtain ⟨rfl, rfl, rfl⟩ := trodAll_nil r2
  obtain rfl : args = #[v0, v1, v2] := by cases args; simp_all
  obtain ⟨rfl, rfl⟩ := trodVars_none hV
  have k0 := h0
  have lt0 : ∀ x ∈ p0, x.block < W.heap.size := by obtain ⟨m, hm⟩ := k0; exact DataW.trod_lt m _ _ _ hm
  obtain ⟨A0, c0, l0, rfl, hC0⟩ := PA.open_bundles (hval 0 29 v0 rfl rfl) h0
  have k1 := h1
  have lt1 : ∀ x ∈ p1, x.block < W.heap.size := by obtain ⟨m, hm⟩ := k1; exact DataW.trod_lt m _ _ _ hm
  obtain ⟨qa1, qn1, rfl, ha1, hn1⟩ := PA.open_query (hval 1 23 v1 rfl rfl) h1
  have k2 := h2
  have lt2 : ∀ x ∈ p2, x.block < W.heap.size := by obtain ⟨m, hm⟩ := k2; exact DataW.trod_lt m _ _ _ hm
  obtain ⟨m2, rfl, _, _, hm2⟩ := open_int Try.underlying3 (hval 2 3 v2 rfl rfl) h2
  clear hA0 hval0 hsz0
  refine (PA.laweach_x W A0 c0 l0 hC0 qa1 qn1 m2 ha1).mono fun e W' ⟨he, bel⟩ => ?_
  subst he
  exact ⟨_, rfl, _, _, _, [], _, [], hW', trodAll_mk1 (shut_bool Try.underlying4 _), (trodAll_cons_mk (Below.trod PA.laidOut (by kernel_rfl) (of_decide_eq_true (by kernel_rfl)) k0 bel lt0) (trodAll_cons_mk (Below.trod PA.laidOut (by kernel_rfl) (of_decide_eq_true (by kernel_rfl)) k1 bel lt1) (trodAll_cons_mk (Below.trod PA.laidOut (by kernel_rfl) (of_decide_eq_true (by kernel_rfl)) k2 bel lt2) trodAll_mk0))), rfl, bel.frame _, fun h => by cases h⟩
theorem over : Rows.queryEachRow.holds Try.pinned (OpenSpec.ofChange Rows.queryEachSpec) :=
  OpenClaim.holds_of_wide 12 Try.f12 rfl rfl rfl rfl rfl rfl rfl ⟨rfl, rfl, rfl, rfl, rfl⟩ rfl rfl rfl rfl rfl (by kernel_rfl) Try.func12 (by kernel_rfl)
    (of_decide_eq_true (by kernel_rfl)) (by unfold Func.isWrapper; first | (rw [if_pos (by decide +kernel)]; kernel_rfl) | (rw [if_neg (by decide +kernel)]; exact ⟨rfl, rfl⟩))
    (fun os started H enc _ => lifted os started H enc)
theorem proved : Rows.QueryEachSaid := over
#print axioms proved
end Go.Proofs.Ythcgiacjmfmamaa.QueryEach
namespace Go.Proofs.Ythcgiacjmfmamaa
theorem queryEach_holds : Rows.QueryEachSaid := QueryEach.proved
end Go.Proofs.Ythcgiacjmfmamaa
