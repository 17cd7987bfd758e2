/-
  The references' Sorted, Of, Within, Near, Names, SameIDs, Same; what the laws' walks share.
-/
import Derived.Test.YthcgiacjmfmamaaMQ
import Derived.Test.YthcgiacjmfmamaaMW
import Derived.Test.YthcgiacjmfmamaaV7
import Derived.Deep.RegionHeld3
namespace Go.Proofs.Ythcgiacjmfmamaa.PA
set_option linter.unusedVariables false
set_option linter.unusedSimpArgs false
open Go.RowKit Go.Proofs.YthcgiacjmfmamaaW.PrintWords
/-- x put behind all of A (told backwards) for which t does not hold. -/
def insBack (t : TB → Bool) (x : TB) : List TB → List TB → List TB
  | [], B => x :: B
  | a :: A, B => if t a = true then insBack t x A (a :: B) else (a :: A).reverse ++ x :: B
theorem insBack_perm (t : TB → Bool) (x : TB) : ∀ A B, (insBack t x A B).Perm (x :: (A.reverse ++ B)) := by
  intro A
  induction A with
  | nil => intro B; exact List.Perm.refl _
  | cons a A ih =>
    intro B
    unfold insBack
    split
    · refine (ih (a :: B)).trans ?_
      rw [List.reverse_cons, List.append_assoc]; exact List.Perm.refl _
    · exact List.perm_middle
theorem insBack_sorted {r : TB → TB → Prop} (tr : ∀ x y z, r x y → r y z → r x z) (t : TB → Bool) (x : TB) : ∀ A B, (A.reverse ++ B).Pairwise r → (∀ b ∈ B, r x b) → (∀ a ∈ A, (t a = true → r x a) ∧ (t a = false → r a x)) → (insBack t x A B).Pairwise r := by
  intro A
  induction A with
  | nil =>
    intro B h hB _
    exact List.pairwise_cons.2 ⟨hB, by simpa using h⟩
  | cons a A ih =>
    intro B h hB hA
    unfold insBack
    have h' : (A.reverse ++ a :: B).Pairwise r := by rw [List.reverse_cons, List.append_assoc] at h; exact h
    split
    · rename_i ht
      refine ih (a :: B) h' (fun b hb => ?_) (fun b hb => hA b (List.mem_cons_of_mem _ hb))
      rcases List.mem_cons.1 hb with e | hb
      · rw [e]; exact (hA a List.mem_cons_self).1 ht
      · exact hB b hb
    · rename_i ht
      have hax : r a x := (hA a List.mem_cons_self).2 (by simpa using ht)
      rw [List.reverse_cons, List.append_assoc]
      obtain ⟨p1, p2, p3⟩ := List.pairwise_append.1 h'
      obtain ⟨p4, p5⟩ := List.pairwise_cons.1 p2
      refine List.pairwise_append.2 ⟨p1, List.pairwise_cons.2 ⟨fun b hb => ?_, List.pairwise_cons.2 ⟨hB, p5⟩⟩, fun c hc b hb => ?_⟩
      · rcases List.mem_cons.1 hb with e | hb
        · rw [e]; exact hax
        · exact p4 b hb
      · rcases List.mem_cons.1 hb with e | hb
        · rw [e]; exact p3 c hc a List.mem_cons_self
        · rcases List.mem_cons.1 hb with e | hb
          · rw [e]; exact tr _ _ _ (p3 c hc a List.mem_cons_self) hax
          · exact p3 c hc b (List.mem_cons_of_mem _ hb)
/-- One put behind another. -/
def insAll (t : TB → TB → Bool) (l acc : List TB) : List TB := l.foldl (fun out x => insBack (t x) x out.reverse []) acc
theorem insAll_perm (t : TB → TB → Bool) : ∀ l acc, (insAll t l acc).Perm (acc ++ l) := by
  intro l
  induction l with
  | nil => intro acc; simp [insAll]
  | cons x l ih =>
    intro acc
    refine (ih _).trans ?_
    have h1 := insBack_perm (t x) x acc.reverse []
    rw [List.reverse_reverse, List.append_nil] at h1
    refine (h1.append_right l).trans ?_
    exact List.perm_middle.symm
theorem insAll_sorted {r : TB → TB → Prop} (tr : ∀ x y z, r x y → r y z → r x z) (t : TB → TB → Bool) : ∀ l acc, acc.Pairwise r → (acc ++ l).Pairwise (fun a x => (t x a = true → r x a) ∧ (t x a = false → r a x)) ∨ True → (∀ x ∈ l, ∀ a ∈ acc, (t x a = true → r x a) ∧ (t x a = false → r a x)) → l.Pairwise (fun a x => (t x a = true → r x a) ∧ (t x a = false → r a x)) → (insAll t l acc).Pairwise r := by
  intro l
  induction l with
  | nil => intro acc h _ _ _; exact h
  | cons x l ih =>
    intro acc h _ hx hl
    obtain ⟨l1, l2⟩ := List.pairwise_cons.1 hl
    refine ih _ ?_ (.inr trivial) ?_ l2
    · refine insBack_sorted tr (t x) x acc.reverse [] (by simpa using h) (fun b hb => by cases hb) (fun a ha => hx x List.mem_cons_self a (by simpa using ha))
    · intro y hy a ha
      have h1 := (insBack_perm (t x) x acc.reverse []).mem_iff.1 ha
      rw [List.reverse_reverse, List.append_nil] at h1
      rcases List.mem_cons.1 h1 with e | h1
      · rw [e]; exact l1 y hy
      · exact hx y (List.mem_cons_of_mem _ hy) a h1
/-- With enough rounds. -/
def Evt {α : Type} (g : Nat → Option α) (r : α) : Prop := ∃ k, ∀ k', k ≤ k' → g k' = some r
theorem rd_mid (A C : List TB) (a : TB) : rd_T51 (A ++ a :: C) ((A.length : Nat) : Int) = a := by
  unfold rd_T51
  rw [Int.toNat_natCast, List.getD_eq_getElem?_getD, List.getElem?_append_right (Nat.le_refl _), Nat.sub_self]; rfl
theorem rd_at (l : List TB) (i : Nat) (h : i < l.length) : rd_T51 l ((i : Nat) : Int) = l[i] := by
  unfold rd_T51
  rw [Int.toNat_natCast, List.getD_eq_getElem?_getD, List.getElem?_eq_getElem h]; rfl
theorem set_mid (A C : List TB) (a b : TB) : (A ++ a :: C).set A.length b = A ++ b :: C := by
  rw [List.set_append_right _ _ (Nat.le_refl _), Nat.sub_self]; rfl
theorem cmpI_neg (a b : Int) : cmpI a b < 0 ↔ a < b := by
  have := cmpI_cases a b
  omega
theorem before_eq (x y : TID) : hedgerowref09_Before.f x.f0 x.f1 x.f2 y.f0 y.f1 y.f2 = some (decide (cmpID x y < 0)) := by
  unfold hedgerowref09_Before.f cmpID
  have a0 := cmpI_cases x.f0 y.f0
  have a1 := cmpI_cases x.f1 y.f1
  have a2 := cmpI_cases x.f2 y.f2
  by_cases h0 : x.f0 = y.f0
  · by_cases h1 : x.f1 = y.f1
    · rw [if_pos h0, if_pos h1, if_neg (by omega), if_neg (by omega)]
      congr 1
      rw [decide_eq_decide]; omega
    · rw [if_pos h0, if_neg h1, if_neg (by omega), if_pos (by omega)]
      congr 1
      rw [decide_eq_decide]; omega
  · rw [if_neg h0, if_pos (by omega)]
    congr 1
    rw [decide_eq_decide]; omega
def befT (x a : TB) : Bool := decide (cmpID x.f0 a.f0 < 0)
theorem wr_sub (n : Nat) (h : n < 1000000) : Go.RowKit.wrap64 (((n + 1 : Nat) : Int) - 1) = ((n : Nat) : Int) := by rw [IntWalk.wrap64_in _ (by omega)]; omega
theorem wr_add (n : Nat) (h : n < 1000000) : Go.RowKit.wrap64 ((n : Int) + 1) = ((n + 1 : Nat) : Int) := by rw [IntWalk.wrap64_in _ (by omega)]; omega
theorem sorted_l1 (l : List TB) (hl : l.length < 100000) (i : Nat) (hi : i < l.length) (res : List TB) : ∀ (A B : List TB) (y : TB), A.length + B.length < 100000 →
    Evt (fun k => hedgerowref09_Sorted.l0 k l (insBack (befT l[i]) l[i] A B) ((i + 1 : Nat) : Int)) res → Evt (fun k => hedgerowref09_Sorted.l1 k l (A.reverse ++ y :: B) (i : Int) (A.length : Int)) res := by
  intro A
  induction A with
  | nil =>
    rintro B y hB ⟨k0, hk⟩
    refine ⟨k0 + 1, fun k' hk' => ?_⟩
    obtain ⟨k, rfl⟩ : ∃ k, k' = k + 1 := ⟨k' - 1, by omega⟩
    show hedgerowref09_Sorted.l1 (k + 1) l ([] ++ y :: B) (i : Int) (([] : List TB).length : Int) = some res
    rw [hedgerowref09_Sorted.l1, if_neg (by simp), if_pos (by omega), if_pos (by omega), if_pos (by simp), if_pos (by simp), rd_at l i hi, wr_add i (by omega)]
    exact hk k (by omega)
  | cons a A ih =>
    rintro B y hB ⟨k0, hk⟩
    have hlen : ((a :: A).reverse ++ y :: B).length = A.length + 1 + (B.length + 1) := by simp; omega
    have e2 : (a :: A).reverse ++ y :: B = A.reverse ++ a :: (y :: B) := by simp
    have hrl : A.reverse.length = A.length := List.length_reverse
    by_cases ht : befT l[i] a = true
    · unfold insBack at hk
      simp only [ht, if_true] at hk
      obtain ⟨k1, hk1⟩ := ih (a :: B) a (by simp at hB ⊢; omega) ⟨k0, hk⟩
      refine ⟨k1 + 1, fun k' hk' => ?_⟩
      obtain ⟨k, rfl⟩ : ∃ k, k' = k + 1 := ⟨k' - 1, by omega⟩
      show hedgerowref09_Sorted.l1 (k + 1) l ((a :: A).reverse ++ y :: B) (i : Int) ((A.length + 1 : Nat) : Int) = some res
      have hr : rd_T51 ((a :: A).reverse ++ y :: B) (A.length : Int) = a := by
        rw [e2, ← hrl]; exact rd_mid _ _ _
      have hst : ((a :: A).reverse ++ y :: B).set (A.length + 1) a = A.reverse ++ a :: (a :: B) := by
        have := set_mid ((a :: A).reverse) B y a
        rw [List.length_reverse, List.length_cons] at this
        rw [this]; simp
      rw [hedgerowref09_Sorted.l1, if_pos (by omega), if_pos (by omega), if_pos (by omega), wr_sub A.length (by simp at hB; omega), if_pos (by omega), if_pos (by rw [hlen]; omega), rd_at l i hi, hr, before_eq, Option.bind_some]
      unfold befT at ht
      rw [if_pos ht, if_pos (by omega), if_pos (by rw [hlen]; omega), Int.toNat_natCast, hst]
      exact hk1 k (by omega)
    · have ht' : befT l[i] a = false := by simpa using ht
      unfold insBack at hk
      simp only [ht', Bool.false_eq_true, if_false] at hk
      refine ⟨k0 + 1, fun k' hk' => ?_⟩
      obtain ⟨k, rfl⟩ : ∃ k, k' = k + 1 := ⟨k' - 1, by omega⟩
      show hedgerowref09_Sorted.l1 (k + 1) l ((a :: A).reverse ++ y :: B) (i : Int) ((A.length + 1 : Nat) : Int) = some res
      have hr : rd_T51 ((a :: A).reverse ++ y :: B) (A.length : Int) = a := by
        rw [e2, ← hrl]; exact rd_mid _ _ _
      have hst : ((a :: A).reverse ++ y :: B).set (A.length + 1) l[i] = (a :: A).reverse ++ l[i] :: B := by
        have := set_mid ((a :: A).reverse) B y l[i]
        rw [List.length_reverse, List.length_cons] at this
        exact this
      rw [hedgerowref09_Sorted.l1, if_pos (by omega), if_pos (by omega), if_pos (by omega), wr_sub A.length (by simp at hB; omega), if_pos (by omega), if_pos (by rw [hlen]; omega), rd_at l i hi, hr, before_eq, Option.bind_some]
      unfold befT at ht
      rw [if_neg ht, if_pos (by omega), if_pos (by rw [hlen]; omega), Int.toNat_natCast, wr_add i (by omega)]
      have hk2 := hk k (by omega)
      rw [← hst] at hk2
      exact hk2
theorem sorted_l0 (l : List TB) (hl : l.length < 10000) : ∀ (d i : Nat) (acc : List TB), i + d = l.length → acc.length = i → Evt (fun k => hedgerowref09_Sorted.l0 k l acc (i : Int)) (insAll befT (l.drop i) acc) := by
  intro d
  induction d with
  | zero =>
    intro i acc hi ha
    refine ⟨1, fun k' hk' => ?_⟩
    obtain ⟨k, rfl⟩ : ∃ k, k' = k + 1 := ⟨k' - 1, by omega⟩
    show hedgerowref09_Sorted.l0 (k + 1) l acc (i : Int) = _
    rw [hedgerowref09_Sorted.l0, if_neg (by omega), List.drop_eq_nil_of_le (by omega)]
    rfl
  | succ d ih =>
    intro i acc hi ha
    have hlt : i < l.length := by omega
    have h0 := ih (i + 1) (insBack (befT l[i]) l[i] acc.reverse []) (by omega) (by rw [(insBack_perm _ _ _ _).length_eq]; simp; omega)
    obtain ⟨k1, hk1⟩ := sorted_l1 l (by omega) i hlt _ acc.reverse [] l[i] (by simp; omega) h0
    refine ⟨k1 + 1, fun k' hk' => ?_⟩
    obtain ⟨k, rfl⟩ : ∃ k, k' = k + 1 := ⟨k' - 1, by omega⟩
    show hedgerowref09_Sorted.l0 (k + 1) l acc (i : Int) = _
    rw [hedgerowref09_Sorted.l0, if_pos (by omega), if_pos (by omega), if_pos (by omega), rd_at l i hlt]
    have hk2 := hk1 k (by omega)
    simp only [List.reverse_reverse, List.length_reverse] at hk2
    rw [List.drop_eq_getElem_cons hlt]
    exact hk2
theorem sorted_eq (l : List TB) (hl : l.length < 10000) : Evt (fun k => hedgerowref09_Sorted.f k l) (insAll befT l []) := by
  have := sorted_l0 l hl l.length 0 [] (by omega) rfl
  simpa [hedgerowref09_Sorted.f] using this
theorem bID_trans (x y z : TB) (h : bID x y) (h' : bID y z) : bID x z := by
  have a := cmpID_law.anti x y
  have b := cmpID_law.anti y z
  have c := cmpID_law.anti x z
  have t1 := cmpID_law.trans x y z
  have a2 := cmpID_law.anti y x
  have t2 := cmpID_law.trans z x y
  have c2 := cmpID_law.anti z x
  unfold bID at *
  omega
theorem bID_total {x y : TB} (h : x.f0 ≠ y.f0) (hn : ¬ bID x y) : bID y x := by
  have a := cmpID_law.anti x y
  have b := cmpID_law.anti y x
  unfold bID at *
  by_cases e : cmpID y.f0 x.f0 = 0
  · exact absurd (cmpID_zero e).symm h
  · omega
/-- Entities by rising names. -/
def sortI (l : List TB) : List TB := insAll befT l []
theorem sortI_perm (l : List TB) : (sortI l).Perm l := insAll_perm befT l []
theorem sortI_sorted {l : List TB} (h : Dist l) : (sortI l).Pairwise bID := by
  refine insAll_sorted bID_trans befT l [] List.Pairwise.nil (.inr trivial) (fun _ _ a ha => by cases ha) (h.imp ?_)
  intro a x hne
  unfold befT
  refine ⟨fun ht => ?_, fun ht => bID_total (Ne.symm hne) ?_⟩
  · show cmpID x.f0 a.f0 < 0
    exact of_decide_eq_true ht
  · show ¬ cmpID x.f0 a.f0 < 0
    exact of_decide_eq_false ht
theorem told_sortI {L M L' : List TB} (hp : L.Perm M) (hd : Dist M) (hL : Told (fun x y => cmpID x.f0 y.f0) L L') : L' = sortI M := told_one hp hd hL (sortI_perm M) (sortI_sorted hd)
end Go.Proofs.Ythcgiacjmfmamaa.PA

namespace Go.Proofs.Ythcgiacjmfmamaa.PA
set_option linter.unusedVariables false
set_option linter.unusedSimpArgs false
open Go.RowKit Go.Proofs.YthcgiacjmfmamaaW.PrintWords Go.Proofs.YthcgiacjmfmamaaW.PrintLast Go.Proofs.YthcgiacjmfmamaaW.PrintMore
def cl (a : Int) : Int := mx (-1073741824) (mn 1073741824 a)
theorem cl_bd (a : Int) : -1073741824 ≤ cl a ∧ cl a ≤ 1073741824 := by
  unfold cl mx mn
  split <;> split <;> omega
theorem clamp_eq (a : Int) : fixed_Clamp.f a = some (cl a) := rfl
theorem refclamp_eq (a : Int) : hedgerowref02_Clamp.f a = some (cl a) := by
  unfold hedgerowref02_Clamp.f cl mx mn
  by_cases h : a > 1073741824
  · rw [if_pos h]
    congr 1
    split <;> split <;> omega
  · rw [if_neg h]
    by_cases h2 : a < -1073741824
    · rw [if_pos h2]
      congr 1
      split <;> split <;> omega
    · rw [if_neg h2]
      congr 1
      split <;> split <;> omega
theorem mx_max (a b : Int) : mx a b = max a b := by
  unfold mx; split <;> omega
theorem w64 {a : Int} (h : -9223372036854775808 ≤ a ∧ a ≤ 9223372036854775807) : Go.RowKit.wrap64 a = a := IntWalk.wrap64_in _ (by omega)
theorem has_eq (x0 y0 x1 y1 a b : Int) : hasI x0 y0 x1 y1 a b = decide ((cl x0 ≤ cl a ∧ cl a < cl x1) ∧ (cl y0 ≤ cl b ∧ cl b < cl y1)) := by
  have b1 := cl_bd x0
  have b2 := cl_bd y0
  have b3 := cl_bd x1
  have b4 := cl_bd y1
  have b5 := cl_bd a
  have b6 := cl_bd b
  unfold hasI rect_Has.f rect_Gap.f rect_box.f rect_off.f
  simp only [clamp_eq, Option.bind_some]
  generalize cl x0 = p0 at *
  generalize cl y0 = p1 at *
  generalize cl x1 = p2 at *
  generalize cl y1 = p3 at *
  generalize cl a = p4 at *
  generalize cl b = p5 at *
  by_cases h1 : p0 < p2
  · rw [if_pos h1]
    simp only [Option.bind_some]
    by_cases h2 : p1 < p3
    · rw [if_pos (decide_eq_true h2)]
      simp only [Option.bind_some, Option.getD_some, mx_max]
      rw [w64 (a := p0 - p4) (by omega), w64 (a := p1 - p5) (by omega), w64 (a := p2 - 1) (by omega), w64 (a := p3 - 1) (by omega), w64 (a := p4 - (p2 - 1)) (by omega), w64 (a := p5 - (p3 - 1)) (by omega)]
      rw [Bool.eq_iff_iff, beq_iff_eq, decide_eq_true_iff]
      omega
    · rw [if_neg (by simpa using h2)]
      simp only [Option.bind_some, Option.getD_some]
      rw [Bool.eq_iff_iff, beq_iff_eq, decide_eq_true_iff]
      omega
  · rw [if_neg h1]
    simp only [Option.bind_some]
    rw [if_neg (by simp)]
    simp only [Option.bind_some, Option.getD_some]
    rw [Bool.eq_iff_iff, beq_iff_eq, decide_eq_true_iff]
    omega
theorem refhas_eq (x0 y0 x1 y1 a b : Int) : hedgerowref03_Has.f x0 y0 x1 y1 a b = some (hasI x0 y0 x1 y1 a b) := by
  rw [has_eq]
  unfold hedgerowref03_Has.f
  simp only [refclamp_eq, Option.bind_some]
  generalize cl x0 = p0
  generalize cl y0 = p1
  generalize cl x1 = p2
  generalize cl y1 = p3
  generalize cl a = p4
  generalize cl b = p5
  by_cases h1 : p0 ≤ p4
  · rw [if_pos h1]
    by_cases h2 : p4 < p2
    · rw [if_pos h2]
      by_cases h3 : p1 ≤ p5
      · rw [if_pos h3]
        congr 1
        rw [decide_eq_decide]; omega
      · rw [if_neg h3]
        congr 1
        rw [eq_comm, decide_eq_false_iff_not]; omega
    · rw [if_neg h2]
      congr 1
      rw [eq_comm, decide_eq_false_iff_not]; omega
  · rw [if_neg h1]
    congr 1
    rw [eq_comm, decide_eq_false_iff_not]; omega
theorem farI_eq (x y u v : Int) : farI x y u v = max (max (cl x - cl u) (cl u - cl x)) (max (cl y - cl v) (cl v - cl y)) := by
  have b1 := cl_bd x
  have b2 := cl_bd y
  have b3 := cl_bd u
  have b4 := cl_bd v
  unfold farI rect_Far.f
  simp only [clamp_eq, Option.bind_some, Option.getD_some, mx_max]
  generalize cl x = p0 at *
  generalize cl y = p1 at *
  generalize cl u = p2 at *
  generalize cl v = p3 at *
  rw [w64 (a := p0 - p2) (by omega), w64 (a := p1 - p3) (by omega), w64 (a := -(p0 - p2)) (by omega), w64 (a := -(p1 - p3)) (by omega)]
  omega
theorem reffar_eq (x y u v : Int) : hedgerowref03_Far.f x y u v = some (farI x y u v) := by
  rw [farI_eq]
  have b1 := cl_bd x
  have b2 := cl_bd y
  have b3 := cl_bd u
  have b4 := cl_bd v
  unfold hedgerowref03_Far.f
  simp only [refclamp_eq, Option.bind_some]
  generalize cl x = p0 at *
  generalize cl y = p1 at *
  generalize cl u = p2 at *
  generalize cl v = p3 at *
  have hs : ∀ n : Int, -4294967296 ≤ n → n ≤ 4294967296 → hedgerowref03_size.f n = some (max n (-n)) := fun n h1 h2 => by
    unfold hedgerowref03_size.f
    by_cases h : n < 0
    · rw [if_pos h, w64 (by omega)]; congr 1; omega
    · rw [if_neg h]; congr 1; omega
  rw [w64 (a := p0 - p2) (by omega), w64 (a := p1 - p3) (by omega), hs _ (by omega) (by omega), Option.bind_some, hs _ (by omega) (by omega), Option.bind_some]
  split
  · congr 1; omega
  · congr 1; omega
/-- A filter's loop, abstractly: at the end, whatever follows. -/
theorem of_l0 {qa : Int} (ha : wfI qa) (qn : Int) (l : List TB) (hl : l.length < 10000) (hw : ∀ x ∈ l, wfI x.f1) (res : List TB) : ∀ (d i : Nat) (acc : List TB), i + d = l.length → acc.length ≤ i →
    Evt (fun k => hedgerowref09_Sorted.f k (acc ++ (l.drop i).filter fun x => mt qa qn x.f1)) res → Evt (fun k => hedgerowref12_Of.l0 k l acc (i : Int) qa qn) res := by
  intro d
  induction d with
  | zero =>
    rintro i acc hi hacc ⟨k0, hk⟩
    refine ⟨k0 + 1, fun k' hk' => ?_⟩
    obtain ⟨k, rfl⟩ : ∃ k, k' = k + 1 := ⟨k' - 1, by omega⟩
    show hedgerowref12_Of.l0 (k + 1) l acc (i : Int) qa qn = _
    rw [hedgerowref12_Of.l0, if_neg (by omega)]
    have := hk k (by omega)
    rw [List.drop_eq_nil_of_le (by omega)] at this
    simpa using this
  | succ d ih =>
    rintro i acc hi hacc hk
    have hlt : i < l.length := by omega
    rw [List.drop_eq_getElem_cons hlt, List.filter_cons] at hk
    by_cases hm : mt qa qn l[i].f1 = true
    · rw [if_pos hm] at hk
      obtain ⟨k0, hk⟩ := ih (i + 1) (acc ++ [l[i]]) (by omega) (by simp; omega) (by rw [List.append_assoc]; exact hk)
      refine ⟨k0 + 1, fun k' hk' => ?_⟩
      obtain ⟨k, rfl⟩ : ∃ k, k' = k + 1 := ⟨k' - 1, by omega⟩
      show hedgerowref12_Of.l0 (k + 1) l acc (i : Int) qa qn = _
      rw [hedgerowref12_Of.l0, if_pos (by omega), if_pos (by omega), rd_at l i hlt, refmatch_eq ha (hw _ (List.getElem_mem hlt)), Option.bind_some, if_pos hm, if_pos (by omega), wr_add i (by omega)]
      exact hk k (by omega)
    · rw [if_neg hm] at hk
      obtain ⟨k0, hk⟩ := ih (i + 1) acc (by omega) (by omega) hk
      refine ⟨k0 + 1, fun k' hk' => ?_⟩
      obtain ⟨k, rfl⟩ : ∃ k, k' = k + 1 := ⟨k' - 1, by omega⟩
      show hedgerowref12_Of.l0 (k + 1) l acc (i : Int) qa qn = _
      rw [hedgerowref12_Of.l0, if_pos (by omega), if_pos (by omega), rd_at l i hlt, refmatch_eq ha (hw _ (List.getElem_mem hlt)), Option.bind_some, if_neg hm, wr_add i (by omega)]
      exact hk k (by omega)
/-- The reference's Of. -/
def ofI (qa qn : Int) (l : List TB) : List TB := sortI (l.filter fun x => mt qa qn x.f1)
theorem of_eq {qa : Int} (ha : wfI qa) (qn : Int) (l : List TB) (hl : l.length < 10000) (hw : ∀ x ∈ l, wfI x.f1) : Evt (fun k => hedgerowref12_Of.f k l qa qn) (ofI qa qn l) :=
  of_l0 ha qn l hl hw _ l.length 0 [] (by omega) (by simp) (by
    have := sorted_eq (l.filter fun x => mt qa qn x.f1) (Nat.lt_of_le_of_lt (List.length_filter_le _ _) hl)
    rw [List.drop_zero, List.nil_append]
    exact this)
theorem ofI_len (qa qn : Int) (l : List TB) : (ofI qa qn l).length ≤ l.length := by
  unfold ofI
  rw [(sortI_perm _).length_eq]
  exact List.length_filter_le _ _
theorem within_l0 (x0 y0 x1 y1 : Int) (l : List TB) (hl : l.length < 10000) : ∀ (d i : Nat) (acc : List TB), i + d = l.length → acc.length ≤ i →
    Evt (fun k => hedgerowref12_Within.l0 k acc l (i : Int) x0 y0 x1 y1) (acc ++ (l.drop i).filter fun x => hasI x0 y0 x1 y1 x.f2 x.f3) := by
  intro d
  induction d with
  | zero =>
    intro i acc hi hacc
    refine ⟨1, fun k' hk' => ?_⟩
    obtain ⟨k, rfl⟩ : ∃ k, k' = k + 1 := ⟨k' - 1, by omega⟩
    show hedgerowref12_Within.l0 (k + 1) acc l (i : Int) x0 y0 x1 y1 = _
    rw [hedgerowref12_Within.l0, if_neg (by omega), List.drop_eq_nil_of_le (by omega)]
    simp
  | succ d ih =>
    intro i acc hi hacc
    have hlt : i < l.length := by omega
    rw [List.drop_eq_getElem_cons hlt, List.filter_cons]
    by_cases hm : hasI x0 y0 x1 y1 l[i].f2 l[i].f3 = true
    · rw [if_pos hm]
      obtain ⟨k0, hk⟩ := ih (i + 1) (acc ++ [l[i]]) (by omega) (by simp; omega)
      refine ⟨k0 + 1, fun k' hk' => ?_⟩
      obtain ⟨k, rfl⟩ : ∃ k, k' = k + 1 := ⟨k' - 1, by omega⟩
      show hedgerowref12_Within.l0 (k + 1) acc l (i : Int) x0 y0 x1 y1 = _
      rw [hedgerowref12_Within.l0, if_pos (by omega), if_pos (by omega), rd_at l i hlt, refhas_eq, Option.bind_some, if_pos hm, if_pos (by omega), wr_add i (by omega)]
      have := hk k (by omega)
      rw [List.append_assoc] at this
      exact this
    · rw [if_neg hm]
      obtain ⟨k0, hk⟩ := ih (i + 1) acc (by omega) (by omega)
      refine ⟨k0 + 1, fun k' hk' => ?_⟩
      obtain ⟨k, rfl⟩ : ∃ k, k' = k + 1 := ⟨k' - 1, by omega⟩
      show hedgerowref12_Within.l0 (k + 1) acc l (i : Int) x0 y0 x1 y1 = _
      rw [hedgerowref12_Within.l0, if_pos (by omega), if_pos (by omega), rd_at l i hlt, refhas_eq, Option.bind_some, if_neg hm, wr_add i (by omega)]
      exact hk k (by omega)
theorem refwithin_eq {qa : Int} (ha : wfI qa) (qn x0 y0 x1 y1 : Int) (l : List TB) (hl : l.length < 10000) (hw : ∀ x ∈ l, wfI x.f1) :
    Evt (fun k => hedgerowref12_Within.f k l qa qn x0 y0 x1 y1) ((ofI qa qn l).filter fun x => hasI x0 y0 x1 y1 x.f2 x.f3) := by
  obtain ⟨k0, hk0⟩ := of_eq ha qn l hl hw
  obtain ⟨k1, hk1⟩ := within_l0 x0 y0 x1 y1 (ofI qa qn l) (Nat.lt_of_le_of_lt (ofI_len qa qn l) hl) (ofI qa qn l).length 0 [] (by omega) (by simp)
  refine ⟨k0 + k1, fun k hk => ?_⟩
  show hedgerowref12_Within.f k l qa qn x0 y0 x1 y1 = _
  unfold hedgerowref12_Within.f
  have h0 : hedgerowref12_Of.f k l qa qn = some (ofI qa qn l) := hk0 k (by omega)
  rw [h0, Option.bind_some]
  have := hk1 k (by omega)
  simpa using this
theorem names_r0 (l : List TB) (hl : l.length < 10000) : ∀ (d i k : Nat) (acc : List TID), i + d = l.length → d < k → acc.length = i → hedgerowref12_Names.l0 k l acc (i : Int) = some (acc ++ (l.drop i).map (·.f0)) := by
  intro d
  induction d with
  | zero =>
    intro i k acc hi hk ha
    obtain ⟨k, rfl⟩ : ∃ G, k = G + 1 := ⟨k - 1, by omega⟩
    rw [hedgerowref12_Names.l0, if_neg (by omega), List.drop_eq_nil_of_le (by omega)]
    simp
  | succ d ih =>
    intro i k acc hi hk ha
    obtain ⟨k, rfl⟩ : ∃ G, k = G + 1 := ⟨k - 1, by omega⟩
    have hlt : i < l.length := by omega
    rw [hedgerowref12_Names.l0, if_pos (by omega), if_pos (by omega), if_pos (by omega), wr_add i (by omega), ih (i + 1) k _ (by omega) (by omega) (by simp [ha]), rd_at l i hlt, List.drop_eq_getElem_cons hlt, List.map_cons, List.append_assoc]
    rfl
theorem refnames_eq (l : List TB) (hl : l.length < 10000) : hedgerowref12_Names.f (l.length + 1) l = some (l.map (·.f0)) := by
  unfold hedgerowref12_Names.f
  have := names_r0 l hl l.length 0 (l.length + 1) [] (by omega) (by omega) rfl
  simpa using this
theorem sameids_l0 (l : List TID) (hl : l.length < 1000000) : ∀ (d i k : Nat), i + d = l.length → d < k → hedgerowref10_SameIDs.l0 k l l (i : Int) = some true := by
  intro d
  induction d with
  | zero =>
    intro i k hi hk
    obtain ⟨k, rfl⟩ : ∃ G, k = G + 1 := ⟨k - 1, by omega⟩
    rw [hedgerowref10_SameIDs.l0, if_neg (by omega)]
  | succ d ih =>
    intro i k hi hk
    obtain ⟨k, rfl⟩ : ∃ G, k = G + 1 := ⟨k - 1, by omega⟩
    rw [hedgerowref10_SameIDs.l0, if_pos (by omega), if_pos (by omega), if_pos (by omega), if_neg (by simp), wr_add i (by omega), ih (i + 1) k (by omega) (by omega)]
theorem sameids_eq (l : List TID) (hl : l.length < 1000000) : hedgerowref10_SameIDs.f (l.length + 1) l l = some true := by
  unfold hedgerowref10_SameIDs.f
  rw [if_pos rfl]
  exact sameids_l0 l hl l.length 0 (l.length + 1) (by omega) (by omega)
theorem refsame_l0 (l : List TB) (hl : l.length < 1000000) : ∀ (d i k : Nat), i + d = l.length → d < k → hedgerowref09_Same.l0 k l l (i : Int) = some true := by
  intro d
  induction d with
  | zero =>
    intro i k hi hk
    obtain ⟨k, rfl⟩ : ∃ G, k = G + 1 := ⟨k - 1, by omega⟩
    rw [hedgerowref09_Same.l0, if_neg (by omega)]
  | succ d ih =>
    intro i k hi hk
    obtain ⟨k, rfl⟩ : ∃ G, k = G + 1 := ⟨k - 1, by omega⟩
    rw [hedgerowref09_Same.l0, if_pos (by omega), if_pos (by omega), if_pos (by omega), if_neg (by simp), wr_add i (by omega), ih (i + 1) k (by omega) (by omega)]
theorem refsame_eq (l : List TB) (hl : l.length < 1000000) : hedgerowref09_Same.f (l.length + 1) l l = some true := by
  unfold hedgerowref09_Same.f
  rw [if_pos rfl]
  exact refsame_l0 l hl l.length 0 (l.length + 1) (by omega) (by omega)
/-- What Within tells is what the reference tells. -/
theorem within_one {L M L' : List TB} (hp : L.Perm M) (hd : Dist M) (qa qn x0 y0 x1 y1 : Int) (h : Told (fun x y => cmpID x.f0 y.f0) (fnd qa qn (fun b => hasI x0 y0 x1 y1 b.f2 b.f3) L) L') :
    L' = (ofI qa qn M).filter fun x => hasI x0 y0 x1 y1 x.f2 x.f3 := by
  refine told_one (fnd_perm hp _ _ _) (fnd_dist hd _ _ _) h ?_ (List.Pairwise.filter _ (sortI_sorted (List.Pairwise.filter _ hd)))
  unfold ofI fnd
  refine ((sortI_perm _).filter _).trans ?_
  rw [List.filter_filter]
  refine List.Perm.of_eq (List.filter_congr fun x _ => ?_)
  unfold mt
  rw [Bool.and_comm]
theorem ids_one {L M L' : List TB} (hp : L.Perm M) (hd : Dist M) (qa qn : Int) (h : Told (fun x y => cmpID x.f0 y.f0) (fnd qa qn (fun _ => true) L) L') : L' = ofI qa qn M := by
  refine told_one (fnd_perm hp _ _ _) (fnd_dist hd _ _ _) h ?_ (sortI_sorted (List.Pairwise.filter _ hd))
  unfold ofI fnd
  refine (sortI_perm _).trans (List.Perm.of_eq (List.filter_congr fun x _ => ?_))
  unfold mt
  rw [Bool.and_true]
end Go.Proofs.Ythcgiacjmfmamaa.PA

namespace Go.Proofs.Ythcgiacjmfmamaa.PA
set_option linter.unusedVariables false
set_option linter.unusedSimpArgs false
open Go.RowKit Go.Shelf Go.Proofs.YthcgiacjmfmamaaW.PrintWords
theorem cell_b {w w' : World} {a : Addr} {v : Value} (hb : Below w.heap.size w w') (h : w.cell? a = some v) : w'.cell? a = some v := (hb.cell (World.block_lt_of_cell? w _ h)).trans h
theorem zk1a {w4 W' : World} {a0 : Addr} {v0 : Value} (h0 : w4.cell? a0 = some v0) (hb : Below w4.heap.size w4 W') : (W'.cell? a0 = some v0) ∧ Below w4.heap.size w4 W' := ⟨cell_b hb h0, hb⟩
theorem zk1b {w4 Wa W' : World} {a0 : Addr} {v0 : Value} (h0 : w4.cell? a0 = some v0) (hb : Below Wa.heap.size Wa W') {A : Prop} (hA : A ∧ Below w4.heap.size w4 Wa) : (W'.cell? a0 = some v0) ∧ Below w4.heap.size w4 W' := zk1a h0 (hA.2.trans (hb.mono hA.2.size))
theorem zk2a {w4 W' : World} {a0 a1 : Addr} {v0 v1 : Value} (h0 : w4.cell? a0 = some v0) (h1 : w4.cell? a1 = some v1) (hb : Below w4.heap.size w4 W') : (W'.cell? a0 = some v0 ∧ W'.cell? a1 = some v1) ∧ Below w4.heap.size w4 W' := ⟨⟨cell_b hb h0, cell_b hb h1⟩, hb⟩
theorem zk2b {w4 Wa W' : World} {a0 a1 : Addr} {v0 v1 : Value} (h0 : w4.cell? a0 = some v0) (h1 : w4.cell? a1 = some v1) (hb : Below Wa.heap.size Wa W') {A : Prop} (hA : A ∧ Below w4.heap.size w4 Wa) : (W'.cell? a0 = some v0 ∧ W'.cell? a1 = some v1) ∧ Below w4.heap.size w4 W' := zk2a h0 h1 (hA.2.trans (hb.mono hA.2.size))
theorem zk3a {w4 W' : World} {a0 a1 a2 : Addr} {v0 v1 v2 : Value} (h0 : w4.cell? a0 = some v0) (h1 : w4.cell? a1 = some v1) (h2 : w4.cell? a2 = some v2) (hb : Below w4.heap.size w4 W') : (W'.cell? a0 = some v0 ∧ W'.cell? a1 = some v1 ∧ W'.cell? a2 = some v2) ∧ Below w4.heap.size w4 W' := ⟨⟨cell_b hb h0, cell_b hb h1, cell_b hb h2⟩, hb⟩
theorem zk3b {w4 Wa W' : World} {a0 a1 a2 : Addr} {v0 v1 v2 : Value} (h0 : w4.cell? a0 = some v0) (h1 : w4.cell? a1 = some v1) (h2 : w4.cell? a2 = some v2) (hb : Below Wa.heap.size Wa W') {A : Prop} (hA : A ∧ Below w4.heap.size w4 Wa) : (W'.cell? a0 = some v0 ∧ W'.cell? a1 = some v1 ∧ W'.cell? a2 = some v2) ∧ Below w4.heap.size w4 W' := zk3a h0 h1 h2 (hA.2.trans (hb.mono hA.2.size))
theorem zk4a {w4 W' : World} {a0 a1 a2 a3 : Addr} {v0 v1 v2 v3 : Value} (h0 : w4.cell? a0 = some v0) (h1 : w4.cell? a1 = some v1) (h2 : w4.cell? a2 = some v2) (h3 : w4.cell? a3 = some v3) (hb : Below w4.heap.size w4 W') : (W'.cell? a0 = some v0 ∧ W'.cell? a1 = some v1 ∧ W'.cell? a2 = some v2 ∧ W'.cell? a3 = some v3) ∧ Below w4.heap.size w4 W' := ⟨⟨cell_b hb h0, cell_b hb h1, cell_b hb h2, cell_b hb h3⟩, hb⟩
theorem zk4b {w4 Wa W' : World} {a0 a1 a2 a3 : Addr} {v0 v1 v2 v3 : Value} (h0 : w4.cell? a0 = some v0) (h1 : w4.cell? a1 = some v1) (h2 : w4.cell? a2 = some v2) (h3 : w4.cell? a3 = some v3) (hb : Below Wa.heap.size Wa W') {A : Prop} (hA : A ∧ Below w4.heap.size w4 Wa) : (W'.cell? a0 = some v0 ∧ W'.cell? a1 = some v1 ∧ W'.cell? a2 = some v2 ∧ W'.cell? a3 = some v3) ∧ Below w4.heap.size w4 W' := zk4a h0 h1 h2 h3 (hA.2.trans (hb.mono hA.2.size))
theorem zk5a {w4 W' : World} {a0 a1 a2 a3 a4 : Addr} {v0 v1 v2 v3 v4 : Value} (h0 : w4.cell? a0 = some v0) (h1 : w4.cell? a1 = some v1) (h2 : w4.cell? a2 = some v2) (h3 : w4.cell? a3 = some v3) (h4 : w4.cell? a4 = some v4) (hb : Below w4.heap.size w4 W') : (W'.cell? a0 = some v0 ∧ W'.cell? a1 = some v1 ∧ W'.cell? a2 = some v2 ∧ W'.cell? a3 = some v3 ∧ W'.cell? a4 = some v4) ∧ Below w4.heap.size w4 W' := ⟨⟨cell_b hb h0, cell_b hb h1, cell_b hb h2, cell_b hb h3, cell_b hb h4⟩, hb⟩
theorem zk5b {w4 Wa W' : World} {a0 a1 a2 a3 a4 : Addr} {v0 v1 v2 v3 v4 : Value} (h0 : w4.cell? a0 = some v0) (h1 : w4.cell? a1 = some v1) (h2 : w4.cell? a2 = some v2) (h3 : w4.cell? a3 = some v3) (h4 : w4.cell? a4 = some v4) (hb : Below Wa.heap.size Wa W') {A : Prop} (hA : A ∧ Below w4.heap.size w4 Wa) : (W'.cell? a0 = some v0 ∧ W'.cell? a1 = some v1 ∧ W'.cell? a2 = some v2 ∧ W'.cell? a3 = some v3 ∧ W'.cell? a4 = some v4) ∧ Below w4.heap.size w4 W' := zk5a h0 h1 h2 h3 h4 (hA.2.trans (hb.mono hA.2.size))
theorem zk6a {w4 W' : World} {a0 a1 a2 a3 a4 a5 : Addr} {v0 v1 v2 v3 v4 v5 : Value} (h0 : w4.cell? a0 = some v0) (h1 : w4.cell? a1 = some v1) (h2 : w4.cell? a2 = some v2) (h3 : w4.cell? a3 = some v3) (h4 : w4.cell? a4 = some v4) (h5 : w4.cell? a5 = some v5) (hb : Below w4.heap.size w4 W') : (W'.cell? a0 = some v0 ∧ W'.cell? a1 = some v1 ∧ W'.cell? a2 = some v2 ∧ W'.cell? a3 = some v3 ∧ W'.cell? a4 = some v4 ∧ W'.cell? a5 = some v5) ∧ Below w4.heap.size w4 W' := ⟨⟨cell_b hb h0, cell_b hb h1, cell_b hb h2, cell_b hb h3, cell_b hb h4, cell_b hb h5⟩, hb⟩
theorem zk6b {w4 Wa W' : World} {a0 a1 a2 a3 a4 a5 : Addr} {v0 v1 v2 v3 v4 v5 : Value} (h0 : w4.cell? a0 = some v0) (h1 : w4.cell? a1 = some v1) (h2 : w4.cell? a2 = some v2) (h3 : w4.cell? a3 = some v3) (h4 : w4.cell? a4 = some v4) (h5 : w4.cell? a5 = some v5) (hb : Below Wa.heap.size Wa W') {A : Prop} (hA : A ∧ Below w4.heap.size w4 Wa) : (W'.cell? a0 = some v0 ∧ W'.cell? a1 = some v1 ∧ W'.cell? a2 = some v2 ∧ W'.cell? a3 = some v3 ∧ W'.cell? a4 = some v4 ∧ W'.cell? a5 = some v5) ∧ Below w4.heap.size w4 W' := zk6a h0 h1 h2 h3 h4 h5 (hA.2.trans (hb.mono hA.2.size))
theorem zk7a {w4 W' : World} {a0 a1 a2 a3 a4 a5 a6 : Addr} {v0 v1 v2 v3 v4 v5 v6 : Value} (h0 : w4.cell? a0 = some v0) (h1 : w4.cell? a1 = some v1) (h2 : w4.cell? a2 = some v2) (h3 : w4.cell? a3 = some v3) (h4 : w4.cell? a4 = some v4) (h5 : w4.cell? a5 = some v5) (h6 : w4.cell? a6 = some v6) (hb : Below w4.heap.size w4 W') : (W'.cell? a0 = some v0 ∧ W'.cell? a1 = some v1 ∧ W'.cell? a2 = some v2 ∧ W'.cell? a3 = some v3 ∧ W'.cell? a4 = some v4 ∧ W'.cell? a5 = some v5 ∧ W'.cell? a6 = some v6) ∧ Below w4.heap.size w4 W' := ⟨⟨cell_b hb h0, cell_b hb h1, cell_b hb h2, cell_b hb h3, cell_b hb h4, cell_b hb h5, cell_b hb h6⟩, hb⟩
theorem zk7b {w4 Wa W' : World} {a0 a1 a2 a3 a4 a5 a6 : Addr} {v0 v1 v2 v3 v4 v5 v6 : Value} (h0 : w4.cell? a0 = some v0) (h1 : w4.cell? a1 = some v1) (h2 : w4.cell? a2 = some v2) (h3 : w4.cell? a3 = some v3) (h4 : w4.cell? a4 = some v4) (h5 : w4.cell? a5 = some v5) (h6 : w4.cell? a6 = some v6) (hb : Below Wa.heap.size Wa W') {A : Prop} (hA : A ∧ Below w4.heap.size w4 Wa) : (W'.cell? a0 = some v0 ∧ W'.cell? a1 = some v1 ∧ W'.cell? a2 = some v2 ∧ W'.cell? a3 = some v3 ∧ W'.cell? a4 = some v4 ∧ W'.cell? a5 = some v5 ∧ W'.cell? a6 = some v6) ∧ Below w4.heap.size w4 W' := zk7a h0 h1 h2 h3 h4 h5 h6 (hA.2.trans (hb.mono hA.2.size))
theorem zk8a {w4 W' : World} {a0 a1 a2 a3 a4 a5 a6 a7 : Addr} {v0 v1 v2 v3 v4 v5 v6 v7 : Value} (h0 : w4.cell? a0 = some v0) (h1 : w4.cell? a1 = some v1) (h2 : w4.cell? a2 = some v2) (h3 : w4.cell? a3 = some v3) (h4 : w4.cell? a4 = some v4) (h5 : w4.cell? a5 = some v5) (h6 : w4.cell? a6 = some v6) (h7 : w4.cell? a7 = some v7) (hb : Below w4.heap.size w4 W') : (W'.cell? a0 = some v0 ∧ W'.cell? a1 = some v1 ∧ W'.cell? a2 = some v2 ∧ W'.cell? a3 = some v3 ∧ W'.cell? a4 = some v4 ∧ W'.cell? a5 = some v5 ∧ W'.cell? a6 = some v6 ∧ W'.cell? a7 = some v7) ∧ Below w4.heap.size w4 W' := ⟨⟨cell_b hb h0, cell_b hb h1, cell_b hb h2, cell_b hb h3, cell_b hb h4, cell_b hb h5, cell_b hb h6, cell_b hb h7⟩, hb⟩
theorem zk8b {w4 Wa W' : World} {a0 a1 a2 a3 a4 a5 a6 a7 : Addr} {v0 v1 v2 v3 v4 v5 v6 v7 : Value} (h0 : w4.cell? a0 = some v0) (h1 : w4.cell? a1 = some v1) (h2 : w4.cell? a2 = some v2) (h3 : w4.cell? a3 = some v3) (h4 : w4.cell? a4 = some v4) (h5 : w4.cell? a5 = some v5) (h6 : w4.cell? a6 = some v6) (h7 : w4.cell? a7 = some v7) (hb : Below Wa.heap.size Wa W') {A : Prop} (hA : A ∧ Below w4.heap.size w4 Wa) : (W'.cell? a0 = some v0 ∧ W'.cell? a1 = some v1 ∧ W'.cell? a2 = some v2 ∧ W'.cell? a3 = some v3 ∧ W'.cell? a4 = some v4 ∧ W'.cell? a5 = some v5 ∧ W'.cell? a6 = some v6 ∧ W'.cell? a7 = some v7) ∧ Below w4.heap.size w4 W' := zk8a h0 h1 h2 h3 h4 h5 h6 h7 (hA.2.trans (hb.mono hA.2.size))
theorem held_b {w4 Wa : World} {A : Prop} (h : A ∧ Below w4.heap.size w4 Wa) : Below w4.heap.size w4 Wa := h.2
theorem madeStep_ok {acc : List TB} (h : ∀ x ∈ acc, chk x = 0) (y : TB) : ∀ x ∈ madeStep acc y, chk x = 0 := by
  unfold madeStep
  split
  · rename_i hc
    intro x hx
    rcases List.mem_append.1 hx with hx | hx
    · exact h x hx
    · rw [List.mem_singleton.1 hx]
      rw [Bool.and_eq_true] at hc
      exact beq_iff_eq.1 hc.1
  · exact h
theorem foldl_ok (l acc : List TB) (h : ∀ x ∈ acc, chk x = 0) : ∀ x ∈ l.foldl madeStep acc, chk x = 0 := by
  induction l generalizing acc with
  | nil => exact h
  | cons y l ih => exact ih _ (madeStep_ok h y)
theorem madeL_ok (l : List TB) : ∀ x ∈ madeL l, OkB x := fun x hx => (check_f x).2 (foldl_ok l [] (fun _ h => by cases h) x hx)
theorem OkB.wfm {x : TB} (h : OkB x) : wfI x.f1 := wf_small h.1.1 (by have := h.1.2; omega)
/-- What stands in made's list: sixty at the most, of different names, each right. -/
structure Mlist (M : List TB) : Prop where
  len : M.length ≤ 60
  dist : Dist M
  ok : ∀ x ∈ M, OkB x
theorem mlist (l : List TB) : Mlist (madeL (l.take 60)) := ⟨Nat.le_trans (madeL_len _) (by rw [List.length_take]; omega), madeL_dist _, madeL_ok _⟩
/-- A store, and the list that it was made of. -/
structure Mst (W : World) (b : Nat) (A : Option Addr) (c : Nat) (L M : List TB) : Prop where
  holds : ∃ base, Holds W base (some ⟨b, 0, none⟩) L
  perm : L.Perm M
  lst : Mlist M
  row : Kd.C k51 W A M.length M
  cap : M.length ≤ c
theorem Mst.below {W W' : World} {b : Nat} {A : Option Addr} {c : Nat} {L M : List TB} (h : Mst W b A c L M) (hb : Below W.heap.size W W') : Mst W' b A c L M :=
  ⟨by obtain ⟨base, hh⟩ := h.holds; exact ⟨base, hh.below hb⟩, h.perm, h.lst, Kd.C_below h.row hb, h.cap⟩
theorem Mst.len {W : World} {b : Nat} {A : Option Addr} {c : Nat} {L M : List TB} (h : Mst W b A c L M) : L.length < 1000 := by
  rw [h.perm.length_eq]
  have := h.lst.len
  omega
theorem mst_held {w4 Wa : World} {P : Prop} (h : P ∧ Below w4.heap.size w4 Wa) {b : Nat} {A : Option Addr} {c : Nat} {L M : List TB} (hm : Mst w4 b A c L M) : Mst Wa b A c L M := hm.below h.2
/-- What made leaves, for a law. -/
def LawMade (w : World) (l : List TB) (e : Ending) (w' : World) : Prop := ∃ b A c L, e = .returned (.tuple #[.pointer (some ⟨b, 0, none⟩), .slice A (madeL (l.take 60)).length c]) ∧ Below w.heap.size w w' ∧ Mst w' b A c L (madeL (l.take 60))
theorem lawmade_x (w : World) (A : Option Addr) (c : Nat) (l : List TB) (hC : Kd.C k51 w A l.length l) : Calls Try.prog 19 #[.slice A l.length c] w (LawMade w l) := by
  refine (made_x w A c l hC).mono ?_
  rintro e w' ⟨b, T, v, rfl, hM⟩
  have hl := (mlist l).len
  obtain ⟨A1, c1, rfl, hc1, hC1⟩ := (ARow.of_own hM.row hM.nil).reads (by omega)
  exact ⟨b, A1, c1, toL T, rfl, hM.below, ⟨w.heap.size, .inr ⟨b, T, rfl, hM.sto, rfl⟩⟩, hM.perm, mlist l, hC1, hc1⟩
/-- A new row of names. -/
def NamesIs (w : World) (ns : List TID) (e : Ending) (w' : World) : Prop := ∃ A c, e = .returned (.slice A ns.length c) ∧ Below w.heap.size w w' ∧ ns.length ≤ c ∧ Kd.C k48 w' A ns.length ns
theorem names_is {w w' : World} {ns : List TID} {v : Value} {base : Nat} (hb : Below w.heap.size w w') (hI : IRow w' base v ns) : NamesIs w ns (.returned v) w' := by
  obtain ⟨A, c, rfl, hc, hC⟩ := Kd.R_reads hI
  exact ⟨A, c, rfl, hb, hc, hC⟩
/-- A new row of bundles. -/
def BunsIs (w : World) (l : List TB) (e : Ending) (w' : World) : Prop := ∃ A c, e = .returned (.slice A l.length c) ∧ Below w.heap.size w w' ∧ l.length ≤ c ∧ Kd.C k51 w' A l.length l
theorem law_within (w : World) {b : Nat} {A : Option Addr} {c : Nat} {L M : List TB} (h : Mst w b A c L M) (qa qn x0 y0 x1 y1 : Int) {ns : List TID} (hns : ns = ((ofI qa qn M).filter fun x => hasI x0 y0 x1 y1 x.f2 x.f3).map (·.f0)) :
    Calls Try.prog 21 #[.pointer (some ⟨b, 0, none⟩), .agg #[.int .i64 qa, .int .i64 qn], .agg #[.int .i64 x0, .int .i64 y0, .int .i64 x1, .int .i64 y1]] w (NamesIs w ns) := by
  obtain ⟨base, hh⟩ := h.holds
  refine (within_x w hh h.len qa qn x0 y0 x1 y1).mono ?_
  rintro e w' ⟨v, L', rfl, hb, hI, hT⟩
  rw [within_one h.perm h.lst.dist qa qn x0 y0 x1 y1 hT, ← hns] at hI
  exact names_is hb hI
theorem law_ids (w : World) {b : Nat} {A : Option Addr} {c : Nat} {L M : List TB} (h : Mst w b A c L M) (qa qn : Int) {ns : List TID} (hns : ns = (ofI qa qn M).map (·.f0)) :
    Calls Try.prog 26 #[.pointer (some ⟨b, 0, none⟩), .agg #[.int .i64 qa, .int .i64 qn]] w (NamesIs w ns) := by
  obtain ⟨base, hh⟩ := h.holds
  refine (ids_x w hh h.len qa qn).mono ?_
  rintro e w' ⟨v, L', rfl, hb, hI, hT⟩
  rw [ids_one h.perm h.lst.dist qa qn hT, ← hns] at hI
  exact names_is hb hI
theorem law_count (w : World) {b : Nat} {A : Option Addr} {c : Nat} {L M : List TB} (h : Mst w b A c L M) (qa qn : Int) {n : Nat} (hn : n = (ofI qa qn M).length) :
    Calls Try.prog 29 #[.pointer (some ⟨b, 0, none⟩), .agg #[.int .i64 qa, .int .i64 qn]] w fun e w' => e = .returned (.int .i64 n) ∧ Below w.heap.size w w' := by
  obtain ⟨base, hh⟩ := h.holds
  refine (count_x w hh h.len qa qn).mono ?_
  rintro e w' ⟨rfl, hb⟩
  refine ⟨?_, hb⟩
  have e1 : (fnd qa qn (fun _ => true) L).length = n := by
    rw [hn, (fnd_perm h.perm qa qn _).length_eq]
    unfold ofI fnd
    rw [(sortI_perm _).length_eq]
    congr 1
    refine List.filter_congr fun x _ => ?_
    unfold mt
    rw [Bool.and_true]
  rw [e1]
theorem law_refwithin (w : World) {b : Nat} {A : Option Addr} {c : Nat} {L M : List TB} (h : Mst w b A c L M) {qa : Int} (ha : wfI qa) (qn x0 y0 x1 y1 : Int) {res : List TB} (hres : res = (ofI qa qn M).filter fun x => hasI x0 y0 x1 y1 x.f2 x.f3) :
    Calls Try.prog 23 #[.slice A M.length c, .agg #[.int .i64 qa, .int .i64 qn], .agg #[.int .i64 x0, .int .i64 y0, .int .i64 x1, .int .i64 y1]] w (BunsIs w res) := by
  have hl := h.lst.len
  obtain ⟨k0, hk⟩ := refwithin_eq ha qn x0 y0 x1 y1 M (by omega) (fun x hx => (h.lst.ok x hx).wfm)
  have hk0 : hedgerowref12_Within.f k0 M qa qn x0 y0 x1 y1 = some res := by rw [hres]; exact hk k0 (Nat.le_refl _)
  refine (hedgerowref12_Within.calls k0 A c M qa qn x0 y0 x1 y1 res w h.row h.cap hk0).mono ?_
  rintro e w' ⟨v, rfl, hR, hb⟩
  obtain ⟨A1, c1, rfl, hc1, hC1⟩ := Kd.R_reads hR
  exact ⟨A1, c1, rfl, hb, hc1, hC1⟩
theorem law_refof (w : World) {b : Nat} {A : Option Addr} {c : Nat} {L M : List TB} (h : Mst w b A c L M) {qa : Int} (ha : wfI qa) (qn : Int) {res : List TB} (hres : res = ofI qa qn M) :
    Calls Try.prog 31 #[.slice A M.length c, .agg #[.int .i64 qa, .int .i64 qn]] w (BunsIs w res) := by
  have hl := h.lst.len
  obtain ⟨k0, hk⟩ := of_eq ha qn M (by omega) (fun x hx => (h.lst.ok x hx).wfm)
  have hk0 : hedgerowref12_Of.f k0 M qa qn = some res := by rw [hres]; exact hk k0 (Nat.le_refl _)
  refine (hedgerowref12_Of.calls k0 A c M qa qn res w h.row h.cap hk0).mono ?_
  rintro e w' ⟨v, rfl, hR, hb⟩
  obtain ⟨A1, c1, rfl, hc1, hC1⟩ := Kd.R_reads hR
  exact ⟨A1, c1, rfl, hb, hc1, hC1⟩
theorem law_names (w : World) {A : Option Addr} {c : Nat} {l : List TB} (hC : Kd.C k51 w A l.length l) (hc : l.length ≤ c) (hl : l.length < 10000) {ns : List TID} (hns : ns = l.map (·.f0)) : Calls Try.prog 22 #[.slice A l.length c] w (NamesIs w ns) := by
  refine (hedgerowref12_Names.calls (l.length + 1) A c l ns w hC hc (by rw [hns]; exact refnames_eq l hl)).mono ?_
  rintro e w' ⟨v, rfl, hR, hb⟩
  exact names_is hb hR
theorem law_same (w : World) {A B : Option Addr} {c d : Nat} {ns : List TID} (hC : Kd.C k48 w A ns.length ns) (hc : ns.length ≤ c) (hD : Kd.C k48 w B ns.length ns) (hd : ns.length ≤ d) (hl : ns.length < 10000) :
    Calls Try.prog 20 #[.slice A ns.length c, .slice B ns.length d] w fun e w' => e = .returned (.bool true) ∧ Below w.heap.size w w' :=
  (hedgerowref10_SameIDs.calls (ns.length + 1) A c ns B d ns true w hC hc hD hd (sameids_eq ns (by omega))).mono fun e w' h => ⟨h.1, drawn_b h.2⟩
theorem law_sameb (w : World) {A B : Option Addr} {c d : Nat} {l : List TB} (hC : Kd.C k51 w A l.length l) (hc : l.length ≤ c) (hD : Kd.C k51 w B l.length l) (hd : l.length ≤ d) (hl : l.length < 10000) :
    Calls Try.prog 32 #[.slice A l.length c, .slice B l.length d] w fun e w' => e = .returned (.bool true) ∧ Below w.heap.size w w' :=
  (hedgerowref09_Same.calls (l.length + 1) A c l B d l true w hC hc hD hd (refsame_eq l (by omega))).mono fun e w' h => ⟨h.1, drawn_b h.2⟩
theorem ofI_small {M : List TB} (h : Mlist M) (qa qn : Int) : (ofI qa qn M).length ≤ 60 := Nat.le_trans (ofI_len qa qn M) h.len
end Go.Proofs.Ythcgiacjmfmamaa.PA

namespace Go.Proofs.Ythcgiacjmfmamaa.PA
set_option linter.unusedVariables false
set_option linter.unusedSimpArgs false
open Go.RowKit Go.Shelf Go.Proofs.YthcgiacjmfmamaaW.PrintWords
def farT (px py : Int) (x a : TB) : Bool := decide (farI px py a.f2 a.f3 > farI px py x.f2 x.f3)
theorem near_l1 (px py dd : Int) (l : List TB) (hl : l.length < 100000) (i : Nat) (hi : i < l.length) (res : List TB) : ∀ (A B : List TB) (y : TB), A.length + B.length < 100000 →
    Evt (fun k => hedgerowref12_Near.l0 k px py dd (insBack (farT px py l[i]) l[i] A B) l ((i + 1 : Nat) : Int)) res → Evt (fun k => hedgerowref12_Near.l1 k px py dd (A.reverse ++ y :: B) l (i : Int) (farI px py l[i].f2 l[i].f3) (A.length : Int)) res := by
  intro A
  induction A with
  | nil =>
    rintro B y hB ⟨k0, hk⟩
    refine ⟨k0 + 1, fun k' hk' => ?_⟩
    obtain ⟨k, rfl⟩ : ∃ k, k' = k + 1 := ⟨k' - 1, by omega⟩
    show hedgerowref12_Near.l1 (k + 1) px py dd ([] ++ y :: B) l (i : Int) _ (([] : List TB).length : Int) = some res
    rw [hedgerowref12_Near.l1, if_neg (by simp), if_pos (by omega), if_pos (by omega), if_pos (by simp), if_pos (by simp), rd_at l i hi, wr_add i (by omega)]
    exact hk k (by omega)
  | cons a A ih =>
    rintro B y hB ⟨k0, hk⟩
    have hlen : ((a :: A).reverse ++ y :: B).length = A.length + 1 + (B.length + 1) := by simp; omega
    have e2 : (a :: A).reverse ++ y :: B = A.reverse ++ a :: (y :: B) := by simp
    have hrl : A.reverse.length = A.length := List.length_reverse
    have hr : rd_T51 ((a :: A).reverse ++ y :: B) (A.length : Int) = a := by
      rw [e2, ← hrl]; exact rd_mid _ _ _
    by_cases ht : farT px py l[i] a = true
    · unfold insBack at hk
      simp only [ht, if_true] at hk
      obtain ⟨k1, hk1⟩ := ih (a :: B) a (by simp at hB ⊢; omega) ⟨k0, hk⟩
      refine ⟨k1 + 1, fun k' hk' => ?_⟩
      obtain ⟨k, rfl⟩ : ∃ k, k' = k + 1 := ⟨k' - 1, by omega⟩
      show hedgerowref12_Near.l1 (k + 1) px py dd ((a :: A).reverse ++ y :: B) l (i : Int) _ ((A.length + 1 : Nat) : Int) = some res
      have hst : ((a :: A).reverse ++ y :: B).set (A.length + 1) a = A.reverse ++ a :: (a :: B) := by
        have := set_mid ((a :: A).reverse) B y a
        rw [List.length_reverse, List.length_cons] at this
        rw [this]; simp
      rw [hedgerowref12_Near.l1, if_pos (by omega), wr_sub A.length (by simp at hB; omega), if_pos (by omega), if_pos (by rw [hlen]; omega), hr, reffar_eq, Option.bind_some]
      unfold farT at ht
      rw [if_pos (of_decide_eq_true ht), if_pos (by omega), if_pos (by rw [hlen]; omega), Int.toNat_natCast, hst]
      exact hk1 k (by omega)
    · have ht' : farT px py l[i] a = false := by simpa using ht
      unfold insBack at hk
      simp only [ht', Bool.false_eq_true, if_false] at hk
      refine ⟨k0 + 1, fun k' hk' => ?_⟩
      obtain ⟨k, rfl⟩ : ∃ k, k' = k + 1 := ⟨k' - 1, by omega⟩
      show hedgerowref12_Near.l1 (k + 1) px py dd ((a :: A).reverse ++ y :: B) l (i : Int) _ ((A.length + 1 : Nat) : Int) = some res
      have hst : ((a :: A).reverse ++ y :: B).set (A.length + 1) l[i] = (a :: A).reverse ++ l[i] :: B := by
        have := set_mid ((a :: A).reverse) B y l[i]
        rw [List.length_reverse, List.length_cons] at this
        exact this
      rw [hedgerowref12_Near.l1, if_pos (by omega), wr_sub A.length (by simp at hB; omega), if_pos (by omega), if_pos (by rw [hlen]; omega), hr, reffar_eq, Option.bind_some]
      unfold farT at ht'
      rw [if_neg (of_decide_eq_false ht'), if_pos (by omega), if_pos (by omega), if_pos (by omega), if_pos (by rw [hlen]; omega), rd_at l i hi, Int.toNat_natCast, wr_add i (by omega)]
      have hk2 := hk k (by omega)
      rw [← hst] at hk2
      exact hk2
theorem near_l0 (px py dd : Int) (l : List TB) (hl : l.length < 10000) : ∀ (d i : Nat) (acc : List TB), i + d = l.length → acc.length ≤ i → Evt (fun k => hedgerowref12_Near.l0 k px py dd acc l (i : Int)) (insAll (farT px py) ((l.drop i).filter fun x => decide (farI px py x.f2 x.f3 ≤ dd)) acc) := by
  intro d
  induction d with
  | zero =>
    intro i acc hi ha
    refine ⟨1, fun k' hk' => ?_⟩
    obtain ⟨k, rfl⟩ : ∃ k, k' = k + 1 := ⟨k' - 1, by omega⟩
    show hedgerowref12_Near.l0 (k + 1) px py dd acc l (i : Int) = _
    rw [hedgerowref12_Near.l0, if_neg (by omega), List.drop_eq_nil_of_le (by omega)]
    rfl
  | succ d ih =>
    intro i acc hi ha
    have hlt : i < l.length := by omega
    rw [List.drop_eq_getElem_cons hlt, List.filter_cons]
    by_cases hf : farI px py l[i].f2 l[i].f3 ≤ dd
    · rw [if_pos (decide_eq_true hf)]
      have h0 := ih (i + 1) (insBack (farT px py l[i]) l[i] acc.reverse []) (by omega) (by rw [(insBack_perm _ _ _ _).length_eq]; simp; omega)
      obtain ⟨k1, hk1⟩ := near_l1 px py dd l (by omega) i hlt _ acc.reverse [] l[i] (by simp; omega) h0
      refine ⟨k1 + 1, fun k' hk' => ?_⟩
      obtain ⟨k, rfl⟩ : ∃ k, k' = k + 1 := ⟨k' - 1, by omega⟩
      show hedgerowref12_Near.l0 (k + 1) px py dd acc l (i : Int) = _
      rw [hedgerowref12_Near.l0, if_pos (by omega), if_pos (by omega), rd_at l i hlt, reffar_eq, Option.bind_some, if_neg (by omega), if_pos (by omega)]
      have hk2 := hk1 k (by omega)
      simp only [List.reverse_reverse, List.length_reverse] at hk2
      exact hk2
    · rw [if_neg (by simpa using hf)]
      obtain ⟨k1, hk1⟩ := ih (i + 1) acc (by omega) (by omega)
      refine ⟨k1 + 1, fun k' hk' => ?_⟩
      obtain ⟨k, rfl⟩ : ∃ k, k' = k + 1 := ⟨k' - 1, by omega⟩
      show hedgerowref12_Near.l0 (k + 1) px py dd acc l (i : Int) = _
      rw [hedgerowref12_Near.l0, if_pos (by omega), if_pos (by omega), rd_at l i hlt, reffar_eq, Option.bind_some, if_pos (by omega), wr_add i (by omega)]
      exact hk1 k (by omega)
/-- The reference's Near. -/
def nearI (qa qn px py dd : Int) (l : List TB) : List TB := insAll (farT px py) ((ofI qa qn l).filter fun x => decide (farI px py x.f2 x.f3 ≤ dd)) []
theorem refnear_eq {qa : Int} (ha : wfI qa) (qn px py dd : Int) (l : List TB) (hl : l.length < 10000) (hw : ∀ x ∈ l, wfI x.f1) :
    Evt (fun k => hedgerowref12_Near.f k l qa qn px py dd) (nearI qa qn px py dd l) := by
  obtain ⟨k0, hk0⟩ := of_eq ha qn l hl hw
  obtain ⟨k1, hk1⟩ := near_l0 px py dd (ofI qa qn l) (Nat.lt_of_le_of_lt (ofI_len qa qn l) hl) (ofI qa qn l).length 0 [] (by omega) (by simp)
  refine ⟨k0 + k1, fun k hk => ?_⟩
  show hedgerowref12_Near.f k l qa qn px py dd = _
  unfold hedgerowref12_Near.f
  have h0 : hedgerowref12_Of.f k l qa qn = some (ofI qa qn l) := hk0 k (by omega)
  rw [h0, Option.bind_some]
  have := hk1 k (by omega)
  simpa [nearI] using this
theorem bFar_trans (px py : Int) (x y z : TB) (h : bFar px py x y) (h' : bFar px py y z) : bFar px py x z := by
  have a := cmpI_cases (farI px py x.f2 x.f3) (farI px py y.f2 y.f3)
  have b := cmpI_cases (farI px py y.f2 y.f3) (farI px py z.f2 z.f3)
  have c := cmpI_cases (farI px py x.f2 x.f3) (farI px py z.f2 z.f3)
  have t := bID_trans x y z
  unfold bFar farC at *
  rcases h with h | ⟨h, h2⟩
  · rcases h' with h' | ⟨h', h3⟩
    · exact .inl (by omega)
    · exact .inl (by omega)
  · rcases h' with h' | ⟨h', h3⟩
    · exact .inl (by omega)
    · exact .inr ⟨by omega, t h2 h3⟩
theorem nearI_perm (qa qn px py dd : Int) (l : List TB) : (nearI qa qn px py dd l).Perm ((ofI qa qn l).filter fun x => decide (farI px py x.f2 x.f3 ≤ dd)) := insAll_perm (farT px py) _ []
theorem nearI_sorted (qa qn px py dd : Int) {l : List TB} (h : Dist l) : (nearI qa qn px py dd l).Pairwise (bFar px py) := by
  refine insAll_sorted (bFar_trans px py) (farT px py) _ [] List.Pairwise.nil (.inr trivial) (fun _ _ a ha => by cases ha) ?_
  have hs : ((ofI qa qn l).filter fun x => decide (farI px py x.f2 x.f3 ≤ dd)).Pairwise bID := List.Pairwise.filter _ (sortI_sorted (List.Pairwise.filter _ h))
  refine hs.imp ?_
  intro a x hax
  have c1 := cmpI_cases (farI px py a.f2 a.f3) (farI px py x.f2 x.f3)
  have c2 := cmpI_cases (farI px py x.f2 x.f3) (farI px py a.f2 a.f3)
  unfold farT bFar farC
  refine ⟨fun ht => .inl ?_, fun ht => ?_⟩
  · have := of_decide_eq_true ht
    omega
  · have := of_decide_eq_false ht
    by_cases e : farI px py a.f2 a.f3 = farI px py x.f2 x.f3
    · exact .inr ⟨by omega, hax⟩
    · exact .inl (by omega)
theorem nearI_len (qa qn px py dd : Int) (l : List TB) : (nearI qa qn px py dd l).length ≤ l.length := by
  rw [(nearI_perm qa qn px py dd l).length_eq]
  exact Nat.le_trans (List.length_filter_le _ _) (ofI_len qa qn l)
theorem near_is {L M L1 L' : List TB} (hp : L.Perm M) (hd : Dist M) (qa qn px py dd : Int) (h1 : Told (fun x y => cmpID x.f0 y.f0) (fnd qa qn (fun b => decide (farI px py b.f2 b.f3 ≤ dd)) L) L1) (h2 : Told (farC px py) L1 L') : L' = nearI qa qn px py dd M := by
  refine near_one (fnd_perm hp _ _ _) (fnd_dist hd _ _ _) h1 h2 ?_ (nearI_sorted qa qn px py dd hd)
  refine (nearI_perm qa qn px py dd M).trans ?_
  unfold ofI fnd
  refine ((sortI_perm _).filter _).trans ?_
  rw [List.filter_filter]
  refine List.Perm.of_eq (List.filter_congr fun x _ => ?_)
  unfold mt
  rw [Bool.and_comm]
theorem law_near (w : World) {b : Nat} {A : Option Addr} {c : Nat} {L M : List TB} (h : Mst w b A c L M) (qa qn px py dd : Int) {ns : List TID} (hns : ns = (nearI qa qn px py dd M).map (·.f0)) :
    Calls Try.prog 24 #[.pointer (some ⟨b, 0, none⟩), .agg #[.int .i64 qa, .int .i64 qn], .int .i64 px, .int .i64 py, .int .i64 dd] w (NamesIs w ns) := by
  obtain ⟨base, hh⟩ := h.holds
  refine (near_x w hh h.len qa qn px py dd).mono ?_
  rintro e w' ⟨v, L1, L', rfl, hb, hI, hT1, hT2⟩
  rw [near_is h.perm h.lst.dist qa qn px py dd hT1 hT2, ← hns] at hI
  exact names_is hb hI
theorem law_refnear (w : World) {b : Nat} {A : Option Addr} {c : Nat} {L M : List TB} (h : Mst w b A c L M) {qa : Int} (ha : wfI qa) (qn px py dd : Int) {res : List TB} (hres : res = nearI qa qn px py dd M) :
    Calls Try.prog 25 #[.slice A M.length c, .agg #[.int .i64 qa, .int .i64 qn], .int .i64 px, .int .i64 py, .int .i64 dd] w (BunsIs w res) := by
  have hl := h.lst.len
  obtain ⟨k0, hk⟩ := refnear_eq ha qn px py dd M (by omega) (fun x hx => (h.lst.ok x hx).wfm)
  have hk0 : hedgerowref12_Near.f k0 M qa qn px py dd = some res := by rw [hres]; exact hk k0 (Nat.le_refl _)
  refine (hedgerowref12_Near.calls k0 A c M qa qn px py dd res w h.row h.cap hk0).mono ?_
  rintro e w' ⟨v, rfl, hR, hb⟩
  obtain ⟨A1, c1, rfl, hc1, hC1⟩ := Kd.R_reads hR
  exact ⟨A1, c1, rfl, hb, hc1, hC1⟩
end Go.Proofs.Ythcgiacjmfmamaa.PA
