/-
  slices.SortStableFunc at a row of bundles, second part: the merge, the whole sort; slices.Clone, parts.Sorted.
-/
import Derived.Test.YthcgiacjmfmamaaMS
import Derived.Test.YthcgiacjmfmamaaV9
import Derived.StillTailTactics
import Derived.Deep.AppendLies
import Derived.Lib.BufferMore
namespace Go.Proofs.Ythcgiacjmfmamaa.PA
set_option linter.unusedVariables false
set_option linter.unusedSimpArgs false
open Go.RowKit Go.Proofs.YthcgiacjmfmamaaW.PrintWords
set_option maxRecDepth 100000 in
set_option maxHeartbeats 3200000 in
theorem sym_x (blk N cap : Nat) (og : Nat → TB) (g : FuncId) (lb : Array Value) (cf : TB → TB → Int) (L : CmpLaw cf) (eg : ∀ args w, (callFunc g args).run Try.prog w = .ok (.enter g args) w) (hN : N < 1000000) (s : Nat) :
    ∀ (w : World) (D0 : Nat → Nat) (a m b : Nat), b - a ≤ s → CmpOK g lb blk w cf → Arr w blk N (fun i => og (D0 i)) → a < m → m < b → b ≤ N → Sym cf og a m b D0 →
    Calls Try.prog 78 #[.slice (some ⟨blk, 0, none⟩) N cap, .int .i64 a, .int .i64 m, .int .i64 b, .func (.func g) #[] lb] w fun e w' => e = .returned (.tuple #[]) ∧ w.grownBy w' (some blk) ∧ ∃ D, Arr w' blk N (fun i => og (D i)) ∧ PermOn a b D0 D ∧ SortedOn cf og a b D := by
  induction s with
  | zero => intro w D0 a m b hsz _ _ ham hmb; omega
  | succ s ih =>
    intro w D0 a m b hsz hc h ham hmb hb hs
    by_cases hma : m ≤ a + 1
    · exact sym_x_a w blk N cap og D0 a m b g lb cf L eg hc h ham hma hmb hb hN hs
    by_cases hbm : b ≤ m + 1
    · exact sym_x_b w blk N cap og D0 a m b g lb cf L eg hc h (by omega) hmb hbm hb hN hs
    have hone : ((m : Int) - (a : Int) == 1) = false := by rw [beq_eq_false_iff_ne]; omega
    have htwo : ((b : Int) - (m : Int) == 1) = false := by rw [beq_eq_false_iff_ne]; omega
    obtain ⟨mid, hmid⟩ : ∃ mid, mid = (a + b) / 2 := ⟨_, rfl⟩
    have hmidI : ((a : Int) + (b : Int)) / 2 = (mid : Int) := by omega
    obtain ⟨pp, hpp⟩ : ∃ pp, mid + m = pp + 1 := ⟨mid + m - 1, by omega⟩
    have hppI : (mid : Int) + (m : Int) - 1 = (pp : Int) := by omega
    have hppB : pp < 2 * N := by omega
    have hm1 : a < mid := by omega
    have hm2 : mid < b := by omega
    have HM := Aside0.mk hmid
    have HP := Aside0.mk hpp
    have HS := Aside0.mk hs
    have IH := Aside0.mk ih
    clear hmid hpp hs ih
    obtain ⟨s0, r0, h0, q1, q2, q3⟩ : ∃ s0 r0, ((mid < m ∧ s0 = mid + m - b ∧ r0 = mid) ∨ (m ≤ mid ∧ s0 = a ∧ r0 = m)) ∧ a ≤ s0 ∧ s0 ≤ r0 ∧ r0 ≤ m := by
      by_cases hmm : mid < m
      · exact ⟨mid + m - b, mid, .inl ⟨hmm, rfl, rfl⟩, by have := HM.out; omega, by omega, by omega⟩
      · exact ⟨a, m, .inr ⟨by omega, rfl, rfl⟩, Nat.le_refl _, by omega, Nat.le_refl _⟩
    have H0 := Aside0.mk h0
    go_enter Try.func78, Try.ntmps78
    go_upto_if 140 with (fail)
    go_cut [20, 21] (fun v20 v21 wc => v20 = .int .i64 s0 ∧ v21 = .int .i64 r0 ∧ wc = w)
    case first =>
      rcases h0 with ⟨c1, c2, c3⟩ | ⟨c1, c2, c3⟩
      · have k1 : (mid : Int) < (m : Int) := by omega
        go_wp2
        go_meet
        exact ⟨by rw [c2, show ((mid + m - b : Nat) : Int) = (mid : Int) + (m : Int) - (b : Int) by have := HM.out; omega], by rw [c3], rfl⟩
      · have k1 : ¬ (mid : Int) < (m : Int) := by omega
        go_wp2
        go_meet
        exact ⟨by rw [c2], by rw [c3], rfl⟩
    case rest =>
      obtain ⟨rfl, rfl, hwc⟩ := hcut
      obtain rfl := hwc.symm
      clear h0
      go_wp2
      go_loopg [20, 21] (r0 - s0) (fun gq v20 v21 wr => ∃ st r : Nat, v20 = .int .i64 st ∧ v21 = .int .i64 r ∧ gq = r - st ∧ s0 ≤ st ∧ st ≤ r ∧ r ≤ r0 ∧ w.grownBy wr (some blk) ∧ Arr wr blk N (fun i => og (D0 i)) ∧
        Aside0 (s0 < st → less cf og (D0 (st - 1)) (D0 (mid + m - st))) ∧ Aside0 (r < r0 → less cf og (D0 (mid + m - r - 1)) (D0 r)))
      case atStart => exact ⟨s0, r0, rfl, rfl, rfl, Nat.le_refl _, q2, Nat.le_refl _, grownBy_refl _ _, h, ⟨fun h => by omega⟩, ⟨fun h => by omega⟩⟩
      case round =>
        obtain ⟨st, r, rfl, rfl, hgq, hs0, hsr, hr0, hg, hA, h1, h2⟩ := hrel
        by_cases hlt : st < r
        · have k1 : (st : Int) < (r : Int) := by omega
          obtain ⟨c, hc0⟩ : ∃ c, c = (st + r) / 2 := ⟨_, rfl⟩
          have hcI : ((st : Int) + (r : Int)) / 2 = (c : Int) := by omega
          have hc1 : st ≤ c := by omega
          have hc2 : c < r := by omega
          clear hc0
          obtain ⟨b1, b2, b3, b4, b5⟩ : a ≤ c ∧ c < m ∧ m ≤ pp - c ∧ pp - c < b ∧ c ≤ pp := by
            have e1 := H0.out
            have e2 := HM.out
            have e3 := HP.out
            omega
          obtain ⟨pc, hpc⟩ : ∃ pc, pc = pp - c := ⟨_, rfl⟩
          have s0 : (pp : Int) - (c : Int) = (pc : Int) := by omega
          have hcL : pc < N := by omega
          have z1 : (pc : Int) < (N : Int) := by omega
          have y1 : (c : Int) < (N : Int) := by omega
          have s1 : IntKind.i64.wrap (pc : Int) = (pc : Int) := IntWalk.i64_in _ (by omega)
          have HC := Aside0.mk hpc
          clear hpc
          obtain ⟨p0, p1, p2, p3, p4, p5, p6, p7, p8, p9, p10⟩ := hA.cells (i := pc) hcL
          obtain ⟨q0, q1, q2, q3, q4, q5, q6, q7, q8, q9, q10⟩ := hA.cells (i := c) (by omega)
          go_wp2
          go_still_tail 11, (by kernel_rfl)
          change wpList _ _ _ _ _ (World.drew _)
          clear p0 p1 p2 p3 p4 p5 p6 p7 p8 p9 p10 q0 q1 q2 q3 q4 q5 q6 q7 q8 q9 q10
          have hcc := (hc.grown hg) wr.drew (og (D0 pc)) (og (D0 c)) (grownBy_drew (grownBy_refl _ _))
          by_cases hcmp : cf (og (D0 pc)) (og (D0 c)) < 0
          · have hnt : (!decide (cf (og (D0 pc)) (og (D0 c)) < 0)) = false := by simp [hcmp]
            go_wp2_with ((with_reducible refine hcc.mono ?_); rintro e W' ⟨rfl, hbW⟩)
            have hg' := grownBy_below (grownBy_drew hg) hbW
            have hA' := (Arr.drew hA).kept (hbW.block blk hA.lt)
            go_roundg (c - st)
            case measure => omega
            case rel =>
              refine ⟨st, c, rfl, rfl, rfl, hs0, hc1, by omega, hg', hA', h1, ⟨fun _ => ?_⟩⟩
              have e1 := HP.out
              have e2 := HC.out
              rw [show mid + m - c - 1 = pc by omega]
              exact .inl hcmp
          · have hnt : (!decide (cf (og (D0 pc)) (og (D0 c)) < 0)) = true := by simp; omega
            go_wp2_with ((with_reducible refine hcc.mono ?_); rintro e W' ⟨rfl, hbW⟩)
            have hg' := grownBy_below (grownBy_drew hg) hbW
            have hA' := (Arr.drew hA).kept (hbW.block blk hA.lt)
            go_roundg (r - (c + 1))
            case measure => omega
            case rel =>
              refine ⟨c + 1, r, by go_num, rfl, rfl, by omega, by omega, hr0, hg', hA', ⟨fun _ => ?_⟩, h2⟩
              have e1 := HP.out
              have e2 := HC.out
              rw [show mid + m - (c + 1) = pc by omega, show c + 1 - 1 = c by omega]
              exact less_of_test L (HS.out.tg c pc b1 b2 (by omega) (by omega)) (by omega)
        · have k1 : ¬ (st : Int) < (r : Int) := by omega
          have hre : r = st := by omega
          subst hre
          have hcut : Cut cf og a m b mid r D0 := cut_of_search ham hmb HM.out H0.out hs0 (by omega) h1.out h2.out
          have hcut1 := hcut.him
          have hcut2 := hcut.hmid
          have hcut3 := hcut.hend
          have hcut4 := hcut.lo
          obtain ⟨en, hen, hen1⟩ : ∃ en, mid + m = r + en ∧ mid + m - r = en := ⟨mid + m - r, by omega, rfl⟩
          rw [hen1] at hcut3
          have henI : (mid : Int) + (m : Int) - (r : Int) = (en : Int) := by omega
          have HE := Aside0.mk hen1
          have HE2 := Aside0.mk hen
          have HCUT := Aside0.mk hcut
          clear hen1 hen hcut h1 h2 H0
          have hmr : ∀ x, og (rot D0 r m en x) = rot (fun i => og (D0 i)) r m en x := fun x => by
            unfold rot
            by_cases c1 : r ≤ x ∧ x < r + (en - m)
            · rw [if_pos c1, if_pos c1]
            · rw [if_neg c1, if_neg c1]
              by_cases c2 : r + (en - m) ≤ x ∧ x < en
              · rw [if_pos c2, if_pos c2]
              · rw [if_neg c2, if_neg c2]
          go_upto_region 39 with (fail)
          go_cut [185] from 178 to 185 (fun v w2 => v = .bool (decide (r < m ∧ m < en)) ∧ w2 = wr)
          case first =>
            by_cases g1 : r < m
            · have k2 : (r : Int) < (m : Int) := by omega
              by_cases g2 : m < en
              · have k3 : (m : Int) < (en : Int) := by omega
                have k4 : decide (r < m ∧ m < en) = true := by simp [g1, g2]
                go_wp2
                go_meet
                exact ⟨by rw [k4], rfl⟩
              · have k3 : ¬ (m : Int) < (en : Int) := by omega
                have k4 : decide (r < m ∧ m < en) = false := by simp [g1, g2]
                go_wp2
                go_meet
                exact ⟨by rw [k4], rfl⟩
            · have k2 : ¬ (r : Int) < (m : Int) := by omega
              have k4 : decide (r < m ∧ m < en) = false := by simp [g1]
              go_wp2
              go_meet
              exact ⟨by rw [k4], rfl⟩
          case rest =>
          obtain ⟨rfl, hwc⟩ := hcut
          obtain rfl := hwc.symm
          clear hwc
          go_upto_if 185 with (fail)
          go_cut [] from 178 to 191 (fun w2 => w.grownBy w2 (some blk) ∧ Arr w2 blk N (fun i => og (rot D0 r m en i)))
          case first =>
            by_cases g1 : r < m
            · have k2 : (r : Int) < (m : Int) := by omega
              by_cases g2 : m < en
              · have k3 : (m : Int) < (en : Int) := by omega
                have k4 : decide (r < m ∧ m < en) = true := by simp [g1, g2]
                have hcr := rotate_x wr blk N cap (fun i => og (D0 i)) r m en (.func (.func g) #[] lb) hA g1 g2 (by omega) hN
                go_wp2_with (go_at_call 81; refine hcr.mono ?_; rintro e w' ⟨rfl, hg', hA'⟩)
                go_meet
                exact ⟨grownBy_trans hg hg', hA'.congr (fun x _ => hmr x)⟩
              · have k3 : ¬ (m : Int) < (en : Int) := by omega
                have k4 : decide (r < m ∧ m < en) = false := by simp [g1, g2]
                go_wp2
                go_meet
                have hem : en = m := by have := HE2.out; omega
                exact ⟨hg, hA.congr (fun x _ => by rw [hem, rot_id])⟩
            · have k2 : ¬ (r : Int) < (m : Int) := by omega
              have k4 : decide (r < m ∧ m < en) = false := by simp [g1]
              go_wp2
              go_meet
              have hem : r = m := by omega
              exact ⟨hg, hA.congr (fun x _ => by rw [hem, rot_id'])⟩
          case rest =>
            clear hg hA
            obtain ⟨hg, hA⟩ := hcut
            have HL : Aside0 (Sym cf og a r mid (rot D0 r m en)) := ⟨by have := HCUT.out.symL HS.out; rw [HE.out] at this; exact this⟩
            have HR : Aside0 (Sym cf og mid en b (rot D0 r m en)) := ⟨by have := HCUT.out.symR HS.out; rw [HE.out] at this; exact this⟩
            obtain ⟨wB, hwB⟩ : ∃ x, x = wc := ⟨_, rfl⟩
            subst hwB
            go_upto_region 41 with (fail)
            go_cut [199] from 192 to 199 (fun v w2 => v = .bool (decide (a < r ∧ r < mid)) ∧ w2 = wB)
            case first =>
              by_cases g1 : a < r
              · have k2 : (a : Int) < (r : Int) := by omega
                by_cases g2 : r < mid
                · have k3 : (r : Int) < (mid : Int) := by omega
                  have k4 : decide (a < r ∧ r < mid) = true := by simp [g1, g2]
                  go_wp2
                  go_meet
                  exact ⟨by rw [k4], rfl⟩
                · have k3 : ¬ (r : Int) < (mid : Int) := by omega
                  have k4 : decide (a < r ∧ r < mid) = false := by simp [g1, g2]
                  go_wp2
                  go_meet
                  exact ⟨by rw [k4], rfl⟩
              · have k2 : ¬ (a : Int) < (r : Int) := by omega
                have k4 : decide (a < r ∧ r < mid) = false := by simp [g1]
                go_wp2
                go_meet
                exact ⟨by rw [k4], rfl⟩
            case rest =>
            obtain ⟨rfl, hwc⟩ := hcut
            obtain rfl := hwc.symm
            clear hwc
            go_upto_if 199 with (fail)
            go_cut [] from 192 to 205 (fun w2 => ∃ E, w.grownBy w2 (some blk) ∧ Arr w2 blk N (fun i => og (E i)) ∧ PermOn a mid (rot D0 r m en) E ∧ SortedOn cf og a mid E)
            case first =>
              by_cases g1 : a < r
              · have k2 : (a : Int) < (r : Int) := by omega
                by_cases g2 : r < mid
                · have k3 : (r : Int) < (mid : Int) := by omega
                  have k4 : decide (a < r ∧ r < mid) = true := by simp [g1, g2]
                  have hcr := IH.out _ (rot D0 r m en) a r mid (by have := HM.out; omega) (hc.grown hg) hA g1 g2 (by omega) HL.out
                  go_wp2_with (go_at_call 78; refine hcr.mono ?_; rintro e w' ⟨rfl, hg', E, hE1, hE2, hE3⟩)
                  go_meet
                  exact ⟨E, grownBy_trans hg hg', hE1, hE2, hE3⟩
                · have k3 : ¬ (r : Int) < (mid : Int) := by omega
                  have k4 : decide (a < r ∧ r < mid) = false := by simp [g1, g2]
                  go_wp2
                  go_meet
                  exact ⟨_, hg, hA, PermOn.refl _ _ _, HL.out.trivR (by omega)⟩
              · have k2 : ¬ (a : Int) < (r : Int) := by omega
                have k4 : decide (a < r ∧ r < mid) = false := by simp [g1]
                go_wp2
                go_meet
                exact ⟨_, hg, hA, PermOn.refl _ _ _, HL.out.trivL (by omega)⟩
            case rest =>
              clear hg hA
              obtain ⟨E, hg, hA, hE2, hE3⟩ := hcut
              have HR2 : Aside0 (Sym cf og mid en b E) := ⟨HR.out.congr (fun i h1 _ => hE2.out i (by omega)) (by have := HE2.out; omega) (by omega)⟩
              have hfin : ∀ (w' : World) (F : Nat → Nat), w.grownBy w' (some blk) → Arr w' blk N (fun i => og (F i)) → PermOn mid b E F → SortedOn cf og mid b F →
                  w.grownBy w' (some blk) ∧ ∃ D, Arr w' blk N (fun i => og (D i)) ∧ PermOn a b D0 D ∧ SortedOn cf og a b D := fun w' F h1 h2 h3 h4 => by
                refine ⟨h1, F, h2, ?_, sorted_join (fun p q hp hpm hq hqb => ?_) hE2 hE3 h3 h4⟩
                · have hp0 : PermOn a b D0 (rot D0 r m en) := (PermOn.rot D0 (by omega) (by have := HE2.out; omega)).mono (by omega) (by omega)
                  exact (hp0.trans (hE2.mono (Nat.le_refl _) (by omega))).trans (h3.mono (by omega) (Nat.le_refl _))
                · have := HCUT.out.sep L HS.out ham hmb hp hpm hq hqb
                  rw [HE.out] at this
                  exact this
              have HF := Aside0.mk hfin
              clear hfin
              by_cases g1 : mid < en
              · have k2 : (mid : Int) < (en : Int) := by omega
                by_cases g2 : en < b
                · have k3 : (en : Int) < (b : Int) := by omega
                  have hcr := IH.out _ E mid en b (by have := HM.out; omega) (hc.grown hg) hA g1 g2 hb HR2.out
                  go_wp2_with (go_at_call 78; refine hcr.mono ?_; rintro e w' ⟨rfl, hg', F, hF1, hF2, hF3⟩)
                  go_end0
                  exact ⟨rfl, HF.out _ F (grownBy_trans hg hg') hF1 hF2 hF3⟩
                · have k3 : ¬ (en : Int) < (b : Int) := by omega
                  go_wp2
                  go_end0
                  exact ⟨rfl, HF.out _ E hg hA (PermOn.refl _ _ _) (HR2.out.trivR (by omega))⟩
              · have k2 : ¬ (mid : Int) < (en : Int) := by omega
                go_wp2
                go_end0
                exact ⟨rfl, HF.out _ E hg hA (PermOn.refl _ _ _) (HR2.out.trivL (by omega))⟩
end Go.Proofs.Ythcgiacjmfmamaa.PA

namespace Go.Proofs.Ythcgiacjmfmamaa.PA
set_option linter.unusedVariables false
set_option linter.unusedSimpArgs false
section
variable {β : Type} {cf : β → β → Int} {og : Nat → β}
def BS (cf : β → β → Int) (og : Nat → β) (z lo hi : Nat) (D : Nat → Nat) : Prop := ∀ p q, lo ≤ p → p < q → q < hi → p / z = q / z → less cf og (D p) (D q)
def BK (z lo hi : Nat) (D : Nat → Nat) : Prop := ∀ p, lo ≤ p → p < hi → D p / z = p / z
theorem div_in {z k p : Nat} (h1 : z * k ≤ p) (h2 : p < z * k + z) : p / z = k := by
  refine Nat.div_eq_of_lt_le ?_ ?_
  · rw [Nat.mul_comm]; exact h1
  · rw [Nat.mul_comm, Nat.mul_succ]; exact h2
theorem div_out {z k p : Nat} (hz : 0 < z) (h : p / z = k) : z * k ≤ p := by
  rw [← h]; exact Nat.mul_div_le p z
theorem blk_step {z a e k : Nat} {D D' : Nat → Nat} (hz : 0 < z) (ha : a = z * k) (hae : a ≤ e) (he : e ≤ a + z) (hS : BS cf og z 0 a D) (hK : BK z 0 a D) (hk : ∀ p, a ≤ p → p < e → D p / z = k) (hP : PermOn a e D D') (hO : SortedOn cf og a e D') :
    BS cf og z 0 e D' ∧ BK z 0 e D' := by
  constructor
  · intro p q _ hpq hq hd
    by_cases hqa : q < a
    · rw [hP.out p (by omega), hP.out q (by omega)]
      exact hS p q (Nat.zero_le _) hpq hqa hd
    · have h1 : q / z = k := div_in (by omega) (by omega)
      have h2 : z * k ≤ p := div_out hz (by rw [hd, h1])
      exact hO p q (by omega) hpq hq
  · intro p _ hp
    by_cases hpa : p < a
    · rw [hP.out p (by omega)]; exact hK p (Nat.zero_le _) hpa
    · obtain ⟨j, j1, j2, e1⟩ := hP.mem (i := p) (by omega) hp
      rw [e1, hk j j1 j2, div_in (z := z) (k := k) (by omega) (by omega)]
theorem BK.two {z lo hi : Nat} {D : Nat → Nat} (h : BK z lo hi D) : BK (z * 2) lo hi D := fun p h1 h2 => by
  rw [← Nat.div_div_eq_div_mul, ← Nat.div_div_eq_div_mul, h p h1 h2]
/-- One block of twice the size: what symMerge asks of it. -/
theorem sym_of_blocks {z a e k N : Nat} {D : Nat → Nat} (hz : 0 < z) (ha : a = z * 2 * k) (he1 : a + z ≤ e) (he2 : e ≤ a + z * 2) (heN : e ≤ N) (hS : BS cf og z a N D) (hK : BK z a N D) : Sym cf og a (a + z) e D := by
  have e0 : z * (2 * k) = a := by rw [ha, Nat.mul_assoc]
  have e1 : z * (2 * k + 1) = a + z := by rw [Nat.mul_succ, e0]
  have c1 : ∀ p, a ≤ p → p < a + z → p / z = 2 * k := fun p h1 h2 => div_in (by omega) (by omega)
  have c2 : ∀ p, a + z ≤ p → p < e → p / z = 2 * k + 1 := fun p h1 h2 => div_in (by omega) (by omega)
  refine ⟨fun p q hp hpq hq => hS p q hp hpq (by omega) ?_, fun p q hp hpq hq => hS p q (by omega) hpq (by omega) ?_, fun p q hp hpm hmq hq => ?_⟩
  · rw [c1 p hp (by omega), c1 q (by omega) hq]
  · rw [c2 p hp (by omega), c2 q (by omega) hq]
  · have h1 := hK p hp (by omega)
    have h2 := hK q (by omega) (by omega)
    rw [c1 p hp hpm] at h1
    rw [c2 q hmq hq] at h2
    by_cases hlt : D p < D q
    · exact hlt
    · have := Nat.div_le_div_right (c := z) (show D q ≤ D p by omega)
      omega
theorem keep_two {z a e k N : Nat} {D : Nat → Nat} (ha : a = z * 2 * k) (he2 : e ≤ a + z * 2) (heN : e ≤ N) (hK : BK z a N D) : ∀ p, a ≤ p → p < e → D p / (z * 2) = k := fun p h1 h2 => by
  rw [hK.two p h1 (by omega)]
  exact div_in (by omega) (by omega)
end
open Go.RowKit Go.Proofs.YthcgiacjmfmamaaW.PrintWords
set_option maxRecDepth 100000 in
set_option maxHeartbeats 3200000 in
theorem stable_x (w : World) (blk N cap : Nat) (og : Nat → TB) (g : FuncId) (lb : Array Value) (cf : TB → TB → Int) (L : CmpLaw cf) (eg : ∀ args w, (callFunc g args).run Try.prog w = .ok (.enter g args) w)
    (hc : CmpOK g lb blk w cf) (h : Arr w blk N og) (hN : N < 1000000) :
    Calls Try.prog 63 #[.slice (some ⟨blk, 0, none⟩) N cap, .int .i64 N, .func (.func g) #[] lb] w fun e w' => e = .returned (.tuple #[]) ∧ w.grownBy w' (some blk) ∧ ∃ D, Arr w' blk N (fun i => og (D i)) ∧ PermOn 0 N id D ∧ SortedOn cf og 0 N D := by
  go_enter Try.func63, Try.ntmps63
  go_wp2
  go_loopg [7, 8] N (fun gq v7 v8 wr => ∃ (k a b : Nat) (D : Nat → Nat), v7 = .int .i64 a ∧ v8 = .int .i64 b ∧ a = 20 * k ∧ b = a + 20 ∧ gq = N - a ∧ a ≤ N ∧ w.grownBy wr (some blk) ∧ Arr wr blk N (fun i => og (D i)) ∧ PermOn 0 N id D ∧ Aside0 (BS cf og 20 0 a D) ∧ Aside0 (BK 20 0 a D) ∧ Aside0 (∀ p, a ≤ p → D p = p))
  case atStart => exact ⟨0, 0, 20, id, rfl, rfl, rfl, rfl, rfl, Nat.zero_le _, grownBy_refl _ _, h, PermOn.refl _ _ _, ⟨fun p q _ _ h => by omega⟩, ⟨fun p _ h => by omega⟩, ⟨fun p _ => rfl⟩⟩
  case round =>
    obtain ⟨k, a, b, D, rfl, rfl, hak, hab, hgq, haN, hg, hA, hP, hS, hK, hI⟩ := hrel
    have HAK := Aside0.mk hak
    have HAB := Aside0.mk hab
    by_cases hlt : b ≤ N
    · have k1 : (b : Int) ≤ (N : Int) := by omega
      have hcr := insertion_x wr blk N cap og D a b g lb cf L eg (hc.grown hg) hA hlt haN hN (fun p q h1 h2 h3 => by rw [hI.out p h1, hI.out q (by omega)]; exact h2)
      clear hak hab
      go_wp2_with (go_at_call 77; refine hcr.mono ?_; rintro e w' ⟨rfl, hg', D', hA', hP', hS'⟩)
      go_roundg (N - b)
      case measure => have := HAB.out; omega
      case rel =>
        have e1 := HAK.out
        have e2 := HAB.out
        have hst := blk_step (k := k) (e := b) (by omega) e1 (by omega) (by omega) hS.out hK.out (fun p h1 h2 => by rw [hI.out p h1]; omega) hP' hS'
        exact ⟨k + 1, b, b + 20, D', rfl, by go_num, by omega, rfl, rfl, hlt, grownBy_trans hg hg', hA', hP.trans (hP'.mono (Nat.zero_le _) hlt), ⟨hst.1⟩, ⟨hst.2⟩, ⟨fun p hp => by rw [hP'.out p (by omega)]; exact hI.out p (by omega)⟩⟩
    · have k1 : ¬ (b : Int) ≤ (N : Int) := by omega
      have hcr := insertion_x wr blk N cap og D a N g lb cf L eg (hc.grown hg) hA (Nat.le_refl _) haN hN (fun p q h1 h2 h3 => by rw [hI.out p h1, hI.out q (by omega)]; exact h2)
      clear hak hab
      go_wp2_with (go_at_call 77; refine hcr.mono ?_; rintro e w' ⟨rfl, hg', D', hA', hP', hS'⟩)
      have hst : BS cf og 20 0 N D' ∧ BK 20 0 N D' := blk_step (k := k) (e := N) (by omega) HAK.out haN (by have := HAB.out; omega) hS.out hK.out (fun p h1 h2 => by have := HAK.out; have := HAB.out; rw [hI.out p h1]; omega) hP' hS'
      have hg2 := grownBy_trans hg hg'
      have hP2 := hP.trans (hP'.mono (Nat.zero_le _) (Nat.le_refl _))
      have HS2 := Aside0.mk hst.1
      have HK2 := Aside0.mk hst.2
      clear hst hg hg' hP hP' hS' hS hK hI HAB HAK hA hcr k1 hlt
      go_loopg [6] (N - 20) (fun gq v6 wr => ∃ (z : Nat) (D : Nat → Nat), v6 = .int .i64 z ∧ gq = N - z ∧ 0 < z ∧ z < 2000000 ∧ w.grownBy wr (some blk) ∧ Arr wr blk N (fun i => og (D i)) ∧ PermOn 0 N id D ∧ Aside0 (BS cf og z 0 N D) ∧ Aside0 (BK z 0 N D))
      case atStart => exact ⟨20, D', rfl, rfl, by omega, by omega, hg2, hA', hP2, HS2, HK2⟩
      case round =>
        clear hg2 hP2 HS2 HK2 hA' haN
        obtain ⟨z, D, rfl, hgq, hz0, hz1, hg, hA, hP, hS, hK⟩ := hrel
        by_cases hlt : z < N
        · have k1 : (z : Int) < (N : Int) := by omega
          have hzb : z < 1000000 := by omega
          go_wp2
          go_loopg [7, 8] N (fun gq v7 v8 wr => ∃ (k a b : Nat) (E : Nat → Nat), v7 = .int .i64 a ∧ v8 = .int .i64 b ∧ Aside0 (a = z * 2 * k) ∧ b = a + z * 2 ∧ gq = N - a ∧ a ≤ N ∧ w.grownBy wr (some blk) ∧ Arr wr blk N (fun i => og (E i)) ∧ PermOn 0 N id E ∧ Aside0 (BS cf og (z * 2) 0 a E) ∧ Aside0 (BK (z * 2) 0 a E) ∧ Aside0 (BS cf og z a N E) ∧ Aside0 (BK z a N E))
          case atStart => exact ⟨0, 0, z * 2, D, rfl, by go_num, ⟨by omega⟩, by omega, rfl, Nat.zero_le _, hg, hA, hP, ⟨fun p q _ _ h => by omega⟩, ⟨fun p _ h => by omega⟩, hS, hK⟩
          case round =>
            clear hg hA hP hS hK
            obtain ⟨k, a, b, D, rfl, rfl, HA, hab, hgq, haN, hg, hA, hP, hS, hK, hS1, hK1⟩ := hrel
            have HB := Aside0.mk hab
            by_cases hlt2 : b ≤ N
            · have k2 : (b : Int) ≤ (N : Int) := by omega
              have hsy : Sym cf og a (a + z) b D := sym_of_blocks hz0 HA.out (by omega) (by omega) hlt2 hS1.out hK1.out
              have hcr := sym_x blk N cap og g lb cf L eg hN (b - a) wr D a (a + z) b (Nat.le_refl _) (hc.grown hg) hA (by omega) (by omega) hlt2 hsy
              rw [show ((a + z : Nat) : Int) = (a : Int) + (z : Int) by omega] at hcr
              have HSY := Aside0.mk hsy
              clear hab hsy
              go_wp2_with (go_at_call 78; refine hcr.mono ?_; rintro e w' ⟨rfl, hg', D', hA', hP', hS'⟩)
              go_roundg (N - b)
              case measure => have := HB.out; omega
              case rel =>
                have e2 := HB.out
                have hst := blk_step (z := z * 2) (k := k) (e := b) (by omega) HA.out (by omega) (by omega) hS.out hK.out (keep_two HA.out (by omega) hlt2 hK1.out) hP' hS'
                refine ⟨k + 1, b, b + z * 2, D', rfl, by go_num, ⟨by rw [Nat.mul_succ, ← HA.out]; exact e2⟩, rfl, rfl, hlt2, grownBy_trans hg hg', hA', hP.trans (hP'.mono (Nat.zero_le _) hlt2), ⟨hst.1⟩, ⟨hst.2⟩, ⟨fun p q h1 h2 h3 h4 => ?_⟩, ⟨fun p h1 h2 => ?_⟩⟩
                · rw [hP'.out p (by omega), hP'.out q (by omega)]; exact hS1.out p q (by omega) h2 h3 h4
                · rw [hP'.out p (by omega)]; exact hK1.out p (by omega) h2
            · have k2 : ¬ (b : Int) ≤ (N : Int) := by omega
              have hz2 : IntKind.i64.wrap ((z : Int) * 2) = (z : Int) * 2 := IntWalk.i64_in _ (by omega)
              by_cases hm : a + z < N
              · have k3 : (a : Int) + (z : Int) < (N : Int) := by omega
                have hsy : Sym cf og a (a + z) N D := sym_of_blocks hz0 HA.out (by omega) (by omega) (Nat.le_refl _) hS1.out hK1.out
                have hcr := sym_x blk N cap og g lb cf L eg hN (N - a) wr D a (a + z) N (Nat.le_refl _) (hc.grown hg) hA (by omega) hm (Nat.le_refl _) hsy
                rw [show ((a + z : Nat) : Int) = (a : Int) + (z : Int) by omega] at hcr
                clear hab hsy
                go_wp2_with (go_at_call 78; refine hcr.mono ?_; rintro e w' ⟨rfl, hg', D', hA', hP', hS'⟩)
                go_roundg (N - z * 2)
                case measure => omega
                case rel =>
                  have e2 := HB.out
                  have hst := blk_step (z := z * 2) (k := k) (e := N) (by omega) HA.out haN (by omega) hS.out hK.out (keep_two HA.out (by omega) (Nat.le_refl _) hK1.out) hP' hS'
                  exact ⟨z * 2, D', by go_num, rfl, by omega, by omega, grownBy_trans hg hg', hA', hP.trans (hP'.mono (Nat.zero_le _) (Nat.le_refl _)), ⟨hst.1⟩, ⟨hst.2⟩⟩
              · have k3 : ¬ (a : Int) + (z : Int) < (N : Int) := by omega
                clear hab
                go_wp2
                go_roundg (N - z * 2)
                case measure => omega
                case rel =>
                  have e2 := HB.out
                  have hso : SortedOn cf og a N D := fun p q h1 h2 h3 => hS1.out p q h1 h2 h3 (by
                    have e0 : z * (2 * k) = a := by rw [HA.out, Nat.mul_assoc]
                    rw [div_in (z := z) (k := 2 * k) (p := p) (by omega) (by omega), div_in (z := z) (k := 2 * k) (p := q) (by omega) (by omega)])
                  have hst := blk_step (z := z * 2) (k := k) (e := N) (by omega) HA.out haN (by omega) hS.out hK.out (keep_two HA.out (by omega) (Nat.le_refl _) hK1.out) (PermOn.refl _ _ _) hso
                  exact ⟨z * 2, D, by go_num, rfl, by omega, by omega, hg, hA, hP, ⟨hst.1⟩, ⟨hst.2⟩⟩
        · have k1 : ¬ (z : Int) < (N : Int) := by omega
          go_wp2
          go_end0
          exact ⟨rfl, hg, D, hA, hP, fun p q h1 h2 h3 => hS.out p q h1 h2 h3 (by rw [Nat.div_eq_of_lt (by omega), Nat.div_eq_of_lt (by omega)])⟩
end Go.Proofs.Ythcgiacjmfmamaa.PA

namespace Go.Proofs.Ythcgiacjmfmamaa.PA
set_option linter.unusedVariables false
set_option linter.unusedSimpArgs false
def cmpI (a b : Int) : Int := if a < b then -1 else if b < a then 1 else 0
def cmpID (x y : TID) : Int := if cmpI x.f0 y.f0 ≠ 0 then cmpI x.f0 y.f0 else if cmpI x.f1 y.f1 ≠ 0 then cmpI x.f1 y.f1 else cmpI x.f2 y.f2
theorem compare_int (a b : Int) : cmp_Compare_int.f a b = some (cmpI a b) := by
  unfold cmp_Compare_int.f cmp_isNaN_int.f cmpI
  simp
  repeat' split
  all_goals first | rfl | omega
theorem compare_f (k : Nat) (x y : TID) : parts_Compare.f (k + 4) x.f0 x.f1 x.f2 y.f0 y.f1 y.f2 = some (cmpID x y) := by
  unfold parts_Compare.f
  rw [compare_int, compare_int, compare_int]
  unfold cmp_Or_int.f cmpID
  generalize cmpI x.f0 y.f0 = p
  generalize cmpI x.f1 y.f1 = q
  generalize cmpI x.f2 y.f2 = r
  have w1 : Go.RowKit.wrap64 1 = 1 := IntWalk.wrap64_in _ (by omega)
  have w2 : Go.RowKit.wrap64 2 = 2 := IntWalk.wrap64_in _ (by omega)
  have w3 : Go.RowKit.wrap64 3 = 3 := IntWalk.wrap64_in _ (by omega)
  have r0 : Go.Proofs.YthcgiacjmfmamaaW.PrintWords.rd [p, q, r] 0 = p := rfl
  have r1 : Go.Proofs.YthcgiacjmfmamaaW.PrintWords.rd [p, q, r] 1 = q := rfl
  have r2 : Go.Proofs.YthcgiacjmfmamaaW.PrintWords.rd [p, q, r] 2 = r := rfl
  simp [cmp_Or_int.l0, w1, w2, w3, r0, r1, r2]
  by_cases hp : p = 0
  · simp [hp]
    by_cases hq : q = 0
    · simp [hq]
      intro hr; exact hr.symm
    · simp [hq]
  · simp [hp]
theorem cmpI_cases (a b : Int) : (a < b ∧ cmpI a b = -1) ∨ (a = b ∧ cmpI a b = 0) ∨ (b < a ∧ cmpI a b = 1) := by
  unfold cmpI; repeat' split <;> omega
theorem cmpID_zero {x y : TID} (h : cmpID x y = 0) : x = y := by
  obtain ⟨x0, x1, x2⟩ := x
  obtain ⟨y0, y1, y2⟩ := y
  unfold cmpID at h
  have a0 := cmpI_cases x0 y0
  have a1 := cmpI_cases x1 y1
  have a2 := cmpI_cases x2 y2
  have e : x0 = y0 ∧ x1 = y1 ∧ x2 = y2 := by
    dsimp only at h
    repeat' split at h
    all_goals omega
  rw [e.1, e.2.1, e.2.2]
theorem cmpID_law : CmpLaw (fun x y : TB => cmpID x.f0 y.f0) := by
  constructor
  · intro x y
    have a0 := cmpI_cases x.f0.f0 y.f0.f0
    have a1 := cmpI_cases x.f0.f1 y.f0.f1
    have a2 := cmpI_cases x.f0.f2 y.f0.f2
    have b0 := cmpI_cases y.f0.f0 x.f0.f0
    have b1 := cmpI_cases y.f0.f1 x.f0.f1
    have b2 := cmpI_cases y.f0.f2 x.f0.f2
    dsimp only [cmpID]
    split <;> split <;> (try split) <;> (try split) <;> omega
  · intro x y z
    have a0 := cmpI_cases x.f0.f0 y.f0.f0
    have a1 := cmpI_cases x.f0.f1 y.f0.f1
    have a2 := cmpI_cases x.f0.f2 y.f0.f2
    have b0 := cmpI_cases y.f0.f0 z.f0.f0
    have b1 := cmpI_cases y.f0.f1 z.f0.f1
    have b2 := cmpI_cases y.f0.f2 z.f0.f2
    have c0 := cmpI_cases x.f0.f0 z.f0.f0
    have c1 := cmpI_cases x.f0.f1 z.f0.f1
    have c2 := cmpI_cases x.f0.f2 z.f0.f2
    dsimp only [cmpID]
    generalize cmpI x.f0.f0 y.f0.f0 = p0 at *
    generalize cmpI x.f0.f1 y.f0.f1 = p1 at *
    generalize cmpI x.f0.f2 y.f0.f2 = p2 at *
    generalize cmpI y.f0.f0 z.f0.f0 = q0 at *
    generalize cmpI y.f0.f1 z.f0.f1 = q1 at *
    generalize cmpI y.f0.f2 z.f0.f2 = q2 at *
    generalize cmpI x.f0.f0 z.f0.f0 = r0 at *
    generalize cmpI x.f0.f1 z.f0.f1 = r1 at *
    generalize cmpI x.f0.f2 z.f0.f2 = r2 at *
    intro h1 h2
    split at h1 <;> split at h2 <;> (try split at h1) <;> (try split at h2) <;> (repeat' split) <;> omega
open Go.RowKit Go.Proofs.YthcgiacjmfmamaaW.PrintWords
set_option maxRecDepth 100000 in
set_option maxHeartbeats 1600000 in
theorem sorted1_x (w : World) (x y : TB) : Calls Try.prog 73 #[.agg #[.int .i64 x.f0.f0, .int .i64 x.f0.f1, .int .i64 x.f0.f2, .int .i64 x.f1, .int .i64 x.f2, .int .i64 x.f3, .int .i64 x.f4, .int .i64 x.f5, .int .i64 x.f6, .int .i64 x.f7, .int .i64 x.f8], .agg #[.int .i64 y.f0.f0, .int .i64 y.f0.f1, .int .i64 y.f0.f2, .int .i64 y.f1, .int .i64 y.f2, .int .i64 y.f3, .int .i64 y.f4, .int .i64 y.f5, .int .i64 y.f6, .int .i64 y.f7, .int .i64 y.f8]] w fun e w' =>
    e = .returned (.int .i64 (cmpID x.f0 y.f0)) ∧ Below w.heap.size w w' := by
  go_enter Try.func73, Try.ntmps73
  go_wp2_with ((with_reducible refine (parts_Compare.calls (0 + 4) x.f0.f0 x.f0.f1 x.f0.f2 y.f0.f0 y.f0.f1 y.f0.f2 _ _ (compare_f 0 x.f0 y.f0)).mono ?_); rintro e W' ⟨rfl, hbW⟩)
  go_ret
  refine ⟨rfl, Below.trans ?_ (Below.mono hbW ?_)⟩
  · repeat (first | exact Below.refl _ _ | apply below_alloc | apply below_drew)
  · simp only [World.alloc, Array.size_push]; omega
set_option maxRecDepth 100000 in
theorem stablefunc_x (w : World) (blk N cap : Nat) (og : Nat → TB) (g : FuncId) (lb : Array Value) (cf : TB → TB → Int) (L : CmpLaw cf) (eg : ∀ args w, (callFunc g args).run Try.prog w = .ok (.enter g args) w)
    (hc : CmpOK g lb blk w cf) (h : Arr w blk N og) (hN : N < 1000000) :
    Calls Try.prog 46 #[.slice (some ⟨blk, 0, none⟩) N cap, .func (.func g) #[] lb] w fun e w' => e = .returned (.tuple #[]) ∧ w.grownBy w' (some blk) ∧ ∃ D, Arr w' blk N (fun i => og (D i)) ∧ PermOn 0 N id D ∧ SortedOn cf og 0 N D := by
  have hcr := stable_x w blk N cap og g lb cf L eg hc h hN
  go_enter Try.func46, Try.ntmps46
  go_wp2_with (go_at_call 63; refine hcr.mono ?_; rintro e w' ⟨rfl, hg', hD⟩)
  go_end0
  exact ⟨rfl, hg', hD⟩
end Go.Proofs.Ythcgiacjmfmamaa.PA

namespace Go.Proofs.Ythcgiacjmfmamaa.PA
set_option linter.unusedVariables false
set_option linter.unusedSimpArgs false
open Go.RowKit Go.Proofs.YthcgiacjmfmamaaW.PrintWords
def z0 : TB := ⟨⟨0, 0, 0⟩, 0, 0, 0, 0, 0, 0, 0, 0⟩
/-- A row of bundles, for reading. -/
def ARow (w : World) (base : Nat) (v : Value) (L : List TB) : Prop :=
  (v = .slice none 0 0 ∧ L = []) ∨ ∃ g cap, 0 < L.length ∧ v = .slice (some ⟨g, 0, none⟩) L.length cap ∧ base ≤ g ∧ L.length ≤ cap ∧ Arr w g L.length (fun i => L.getD i z0)
theorem ARow.below {w w' : World} {base : Nat} {v : Value} {L : List TB} (h : ARow w base v L) (hb : Below w.heap.size w w') : ARow w' base v L := by
  rcases h with h | ⟨g, cap, h0, h1, h2, h3, h4⟩
  · exact .inl h
  · exact .inr ⟨g, cap, h0, h1, h2, h3, h4.kept (hb.block g h4.lt)⟩
def bunCells (L : List TB) : List Value := L.flatMap fun x => (cellsB x).toList
theorem bunCells_length (L : List TB) : (bunCells L).length = L.length * 11 := by
  induction L with
  | nil => rfl
  | cons x L ih =>
    show (((cellsB x).toList) ++ bunCells L).length = _
    rw [List.length_append, ih, List.length_cons]
    show 11 + L.length * 11 = _
    omega
theorem bunCells_at (L : List TB) (i j : Nat) (hi : i < L.length) (hj : j < 11) : (bunCells L)[i * 11 + j]? = some (cellB (L.getD i z0) j) := by
  induction L generalizing i with
  | nil => simp at hi
  | cons x L ih =>
    show (((cellsB x).toList) ++ bunCells L)[i * 11 + j]? = _
    have h11 : (cellsB x).toList.length = 11 := rfl
    match i with
    | 0 =>
      rw [List.getElem?_append_left (by omega)]
      match j, hj with
      | 0, _ => rfl
      | 1, _ => rfl
      | 2, _ => rfl
      | 3, _ => rfl
      | 4, _ => rfl
      | 5, _ => rfl
      | 6, _ => rfl
      | 7, _ => rfl
      | 8, _ => rfl
      | 9, _ => rfl
      | 10, _ => rfl
    | i + 1 =>
      rw [List.getElem?_append_right (by omega), h11, show (i + 1) * 11 + j - 11 = i * 11 + j by omega]
      exact ih i (by simpa using hi)
theorem bunCells_one (L : List TB) : ∀ u ∈ bunCells L, u.oneCell' = true := by
  intro u hu
  obtain ⟨x, _, hx⟩ := List.mem_flatMap.1 hu
  simp [cellsB] at hx
  rcases hx with h | h | h | h | h | h | h | h | h | h | h <;> (rw [h]; rfl)
theorem bunCells_append (L M : List TB) : bunCells (L ++ M) = bunCells L ++ bunCells M := by simp [bunCells, List.flatMap_append]
theorem ARow.of_own {w : World} {base : Nat} {v : Value} {L : List TB} (h : w.ownsRow base 51 11 v L.length (bunCells L)) (h0 : L = [] → v = .slice none 0 0) : ARow w base v L := by
  rcases h.2 with ⟨h1, h2⟩ | ⟨g, cap, cur, h1, h2, h3, h4, _, h5, h6⟩
  · exact .inl ⟨h1, List.length_eq_zero_iff.1 h2⟩
  · by_cases hL : L = []
    · exact .inl ⟨h0 hL, hL⟩
    refine .inr ⟨g, cap, List.length_pos_iff.2 hL, h1, h2, h4, cur, h3, fun i j hi hj => ?_⟩
    rw [← bunCells_at L i j hi hj, ← h6, List.getElem?_take_of_lt (by omega)]
    simp
theorem arr_cells {w : World} {g : Nat} {L : List TB} (h : Arr w g L.length (fun i => L.getD i z0)) (j : Nat) (u : Value) (hu : (bunCells L)[j]? = some u) : w.cell? ((⟨g, 0, none⟩ : Addr).add j) = some u := by
  have hj : j < L.length * 11 := by
    rw [← bunCells_length]
    exact (List.getElem?_eq_some_iff.1 hu).1
  have e : j = j / 11 * 11 + j % 11 := by omega
  have h1 := h.cell (i := j / 11) (by omega) (j % 11) (by omega)
  rw [← bunCells_at L (j / 11) (j % 11) (by omega) (by omega), ← e, hu] at h1
  by_cases hj0 : j = 0
  · subst hj0; simpa [Addr.add] using h1
  · simpa [Addr.add, hj0] using h1
set_option maxRecDepth 100000 in
set_option maxHeartbeats 1600000 in
theorem clone_x (w : World) (base : Nat) (v : Value) (L : List TB) (h : ARow w base v L) (hL : L.length < 1000000) :
    Calls Try.prog 72 #[v] w fun e w' => ∃ v', e = .returned v' ∧ Below w.heap.size w w' ∧ w'.ownsRow w.heap.size 51 11 v' L.length (bunCells L) ∧ (L = [] → v' = .slice none 0 0) := by
  rcases h with ⟨rfl, rfl⟩ | ⟨g, cap, hn, rfl, h2, h3, h4⟩
  · have hnil : ∀ W, (binOp .eql 29 (.slice none 0 0) (.slice none 0 0)).run Try.prog W = .ok (.bool true) W := fun W => Lib.run_eql_slice_nil_nil W _ _ Try.underlying29
    go_enter Try.func72, Try.ntmps72
    go_wp2
    go_ret
    exact ⟨_, rfl, Below.refl _ _, ⟨by simp [bunCells], .inl ⟨rfl, rfl⟩⟩, fun _ => rfl⟩
  · obtain ⟨i0, hi0, hzz0, hzz1, hzz2⟩ := info_parts info51
    have hown : (w.alloc (.cells #[] 51)).ownsRow w.heap.size 51 11 (.slice (some ⟨w.heap.size, 0, none⟩) 0 0) 0 [] := ⟨rfl, .inr ⟨w.heap.size, 0, #[], rfl, Nat.le_refl _, heap_alloc_new w _, Nat.le_refl _, Nat.zero_le _, rfl, rfl⟩⟩
    have h4' : Arr (w.alloc (.cells #[] 51)) g L.length (fun i => L.getD i z0) := h4.kept (Below.heap_alloc w _ g h4.lt)
    have hnil : ∀ W, (binOp .eql 29 (.slice (some ⟨g, 0, none⟩) L.length cap) (.slice none 0 0)).run Try.prog W = .ok (.bool false) W := fun W => Lib.run_eql_slice_some_nil W _ _ _ Try.underlying29
    go_enter Try.func72, Try.ntmps72
    go_wp2_with (at_builtin; go_loud (refine wpList_append_lies _ rfl _ _ _ rfl w.heap.size 51 i0 _ 11 88 Try.underlying29 hi0 hzz0 hzz1 hzz2 rfl (by omega) (.slice (some ⟨w.heap.size, 0, none⟩) 0 0) 0 [] rfl hown ⟨g, 0, none⟩ L.length cap (bunCells L) rfl (bunCells_length L) (arr_cells h4') (bunCells_one L) hn (by unfold maxLen; omega) (by omega) (by simp) (w.heap.size + 1) (by simp) ?_; intro gg cp w1 hown1 hgrow hat hlt))
    go_ret
    refine ⟨_, rfl, Below.trans (b := w.alloc (.cells #[] 51)) ((Below.refl _ _).alloc (Nat.le_refl _) _) ?_, ?_, fun e => by rw [e] at hn; exact absurd hn (Nat.lt_irrefl _)⟩
    · exact (Below.refl _ _).grown hgrow (by simp) (fun k e => by cases e; exact Nat.le_refl _)
    · simpa using hown1
set_option maxRecDepth 100000 in
theorem insertion_nil (w : World) (fv : Value) : Calls Try.prog 77 #[.slice none 0 0, .int .i64 0, .int .i64 0, fv] w fun e w' => e = .returned (.tuple #[]) ∧ w' = w := by
  go_enter Try.func77, Try.ntmps77
  go_wp2
  go_loopg [8] 0 (fun gq v8 wr => v8 = .int .i64 1 ∧ wr = w)
  case atStart => exact ⟨rfl, rfl⟩
  case round =>
    obtain ⟨rfl, rfl⟩ := hrel
    go_wp2
    go_end0
    exact ⟨rfl, rfl⟩
set_option maxRecDepth 100000 in
theorem stable_nil (w : World) (fv : Value) : Calls Try.prog 63 #[.slice none 0 0, .int .i64 0, fv] w fun e w' => e = .returned (.tuple #[]) ∧ w' = w := by
  go_enter Try.func63, Try.ntmps63
  go_wp2
  go_loopg [7, 8] 0 (fun gq v7 v8 wr => v7 = .int .i64 0 ∧ v8 = .int .i64 20 ∧ wr = w)
  case atStart => exact ⟨rfl, rfl, rfl⟩
  case round =>
    obtain ⟨rfl, rfl, rfl⟩ := hrel
    go_wp2_with (go_at_call 77; refine (insertion_nil _ _).mono ?_; rintro e w' ⟨rfl, rfl⟩)
    go_loopg [6] 0 (fun gq v6 wq => v6 = .int .i64 20 ∧ wq = w')
    case atStart => exact ⟨rfl, rfl⟩
    case round =>
      obtain ⟨rfl, rfl⟩ := hrel
      go_wp2
      go_end0
      exact ⟨rfl, rfl⟩
set_option maxRecDepth 100000 in
theorem stablefunc_nil (w : World) (fv : Value) : Calls Try.prog 46 #[.slice none 0 0, fv] w fun e w' => e = .returned (.tuple #[]) ∧ w' = w := by
  go_enter Try.func46, Try.ntmps46
  go_wp2_with (go_at_call 63; refine (stable_nil _ _).mono ?_; rintro e w' ⟨rfl, rfl⟩)
  go_end0
  exact ⟨rfl, rfl⟩
/-- L' is L, in the order that cf tells; of equal ones the former stands first. -/
def Told (cf : TB → TB → Int) (L L' : List TB) : Prop :=
  ∃ D : Nat → Nat, PermOn 0 L.length id D ∧ SortedOn cf (fun i => L.getD i z0) 0 L.length D ∧ L' = (List.range L.length).map fun i => L.getD (D i) z0
theorem Told.length {cf : TB → TB → Int} {L L' : List TB} (h : Told cf L L') : L'.length = L.length := by
  obtain ⟨D, _, _, rfl⟩ := h
  simp
theorem told_getD {L : List TB} {D : Nat → Nat} {i : Nat} (hi : i < L.length) : ((List.range L.length).map fun i => L.getD (D i) z0).getD i z0 = L.getD (D i) z0 := by
  rw [List.getD_eq_getElem?_getD, List.getElem?_map, List.getElem?_range hi]
  rfl
/-- SortStableFunc at a row. -/
theorem sorts_x (w : World) (base : Nat) (v : Value) (L : List TB) (g : FuncId) (lb : Array Value) (cf : TB → TB → Int) (Lw : CmpLaw cf) (eg : ∀ args w, (callFunc g args).run Try.prog w = .ok (.enter g args) w)
    (hc : ∀ blk, base ≤ blk → CmpOK g lb blk w cf) (h : ARow w base v L) (hL : L.length < 1000000) :
    Calls Try.prog 46 #[v, .func (.func g) #[] lb] w fun e w' => e = .returned (.tuple #[]) ∧ ∃ L', Told cf L L' ∧ ARow w' base v L' ∧ w.grownBy w' v.ownBlock := by
  rcases h with ⟨rfl, rfl⟩ | ⟨blk, cap, h0, rfl, h2, h3, h4⟩
  · refine (stablefunc_nil w _).mono ?_
    rintro e w' ⟨rfl, rfl⟩
    exact ⟨rfl, [], ⟨id, PermOn.refl _ _ _, fun p q _ _ h => absurd h (Nat.not_lt_zero _), rfl⟩, .inl ⟨rfl, rfl⟩, grownBy_refl _ _⟩
  · refine (stablefunc_x w blk L.length cap (fun i => L.getD i z0) g lb cf Lw eg (hc blk h2) h4 hL).mono ?_
    rintro e w' ⟨rfl, hg, D, hA, hP, hS⟩
    refine ⟨rfl, _, ⟨D, hP, hS, rfl⟩, ?_, hg⟩
    have hl : ((List.range L.length).map fun i => L.getD (D i) z0).length = L.length := by simp
    refine .inr ⟨blk, cap, by rw [hl]; exact h0, by rw [hl], h2, by rw [hl]; exact h3, ?_⟩
    rw [hl]
    exact hA.congr fun i hi => told_getD hi
theorem sorted1_ok (blk : Nat) (w : World) : CmpOK 73 #[] blk w (fun x y => cmpID x.f0 y.f0) := fun W x y _ => sorted1_x W x y
theorem enters_sorted1 : ∀ args w, (callFunc 73 args).run Try.prog w = .ok (.enter 73 args) w := fun args w => by kernel_rfl
set_option maxRecDepth 100000 in
set_option maxHeartbeats 1600000 in
theorem sorted_x (w : World) (base : Nat) (v : Value) (L : List TB) (h : ARow w base v L) (hL : L.length < 1000000) :
    Calls Try.prog 60 #[v] w fun e w' => ∃ v' L', e = .returned v' ∧ Below w.heap.size w w' ∧ ARow w' w.heap.size v' L' ∧ Told (fun x y => cmpID x.f0 y.f0) L L' := by
  have hcl := clone_x w base v L h hL
  go_enter Try.func60, Try.ntmps60
  go_wp2_with (go_at_call 72; refine hcl.mono ?_; rintro e w1 ⟨v1, rfl, hb1, ho1, hv1⟩)
  have ha1 := ARow.of_own ho1 hv1
  have hso := sorts_x w1 w.heap.size v1 L 73 #[] _ cmpID_law enters_sorted1 (fun blk _ => sorted1_ok blk w1) ha1 hL
  go_wp2_with (go_at_call 46; refine hso.mono ?_; rintro e w2 ⟨rfl, L', hT, hA2, hg2⟩)
  go_ret
  exact ⟨v1, L', rfl, hb1.grown hg2 hb1.size (fun k e => by
    rcases ho1.2 with ⟨e1, _⟩ | ⟨g, cap, cur, e1, e2, _⟩
    · rw [e1] at e; cases e
    · rw [e1] at e; cases e; exact e2), hA2, hT⟩
end Go.Proofs.Ythcgiacjmfmamaa.PA
