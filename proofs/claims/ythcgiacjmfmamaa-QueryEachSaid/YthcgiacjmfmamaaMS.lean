/-
  slices.SortStableFunc at a row of bundles, first part: exchanges, rotations, insertion sort, the small cases of the merge.
-/
import Derived.Test.YthcgiacjmfmamaaMA
namespace Go.Proofs.Ythcgiacjmfmamaa.PA
set_option linter.unusedVariables false
set_option linter.unusedSimpArgs false
open Go.RowKit Go.Proofs.YthcgiacjmfmamaaW.PrintWords
/-- The j-th cell of a bundle. -/
def cellB (x : TB) : Nat → Value
  | 0 => .int .i64 x.f0.f0
  | 1 => .int .i64 x.f0.f1
  | 2 => .int .i64 x.f0.f2
  | 3 => .int .i64 x.f1
  | 4 => .int .i64 x.f2
  | 5 => .int .i64 x.f3
  | 6 => .int .i64 x.f4
  | 7 => .int .i64 x.f5
  | 8 => .int .i64 x.f6
  | 9 => .int .i64 x.f7
  | _ => .int .i64 x.f8
/-- Block blk is a row of N bundles at least: d 0, d 1, .. -/
def Arr (w : World) (blk N : Nat) (d : Nat → TB) : Prop := ∃ cur : Array Value, w.heap[blk]? = some (.cells cur 51 (0, 0)) ∧ ∀ i j, i < N → j < 11 → cur[i * 11 + j]? = some (cellB (d i) j)
section
variable {w w' : World} {blk N : Nat} {d : Nat → TB}
theorem Arr.cell (h : Arr w blk N d) {i : Nat} (hi : i < N) (j : Nat) (hj : j < 11) : w.cell? ⟨blk, i * 11 + j, none⟩ = some (cellB (d i) j) := by
  obtain ⟨cur, hb, hc⟩ := h
  rw [blk_cell hb]; exact hc i j hi hj
theorem Arr.cells (h : Arr w blk N d) {i : Nat} (hi : i < N) :
    w.cell? ⟨blk, i * 11, none⟩ = some (.int .i64 (d i).f0.f0) ∧ w.cell? ⟨blk, i * 11 + 1, none⟩ = some (.int .i64 (d i).f0.f1) ∧ w.cell? ⟨blk, i * 11 + 2, none⟩ = some (.int .i64 (d i).f0.f2) ∧ w.cell? ⟨blk, i * 11 + 3, none⟩ = some (.int .i64 (d i).f1) ∧
    w.cell? ⟨blk, i * 11 + 4, none⟩ = some (.int .i64 (d i).f2) ∧ w.cell? ⟨blk, i * 11 + 5, none⟩ = some (.int .i64 (d i).f3) ∧ w.cell? ⟨blk, i * 11 + 6, none⟩ = some (.int .i64 (d i).f4) ∧ w.cell? ⟨blk, i * 11 + 7, none⟩ = some (.int .i64 (d i).f5) ∧
    w.cell? ⟨blk, i * 11 + 8, none⟩ = some (.int .i64 (d i).f6) ∧ w.cell? ⟨blk, i * 11 + 9, none⟩ = some (.int .i64 (d i).f7) ∧ w.cell? ⟨blk, i * 11 + 10, none⟩ = some (.int .i64 (d i).f8) :=
  ⟨h.cell hi 0 (by omega), h.cell hi 1 (by omega), h.cell hi 2 (by omega), h.cell hi 3 (by omega), h.cell hi 4 (by omega), h.cell hi 5 (by omega), h.cell hi 6 (by omega), h.cell hi 7 (by omega), h.cell hi 8 (by omega), h.cell hi 9 (by omega), h.cell hi 10 (by omega)⟩
theorem Arr.frozen (h : Arr w blk N d) (i : Nat) : w.frozen? ⟨blk, i, none⟩ = false := by
  obtain ⟨cur, hb, _⟩ := h
  exact blk_frozen hb i
theorem Arr.lt (h : Arr w blk N d) : blk < w.heap.size := by
  obtain ⟨cur, hb, _⟩ := h
  exact blk_lt hb
theorem Arr.kept (h : Arr w blk N d) (hk : w'.heap[blk]? = w.heap[blk]?) : Arr w' blk N d := by
  obtain ⟨cur, hb, hc⟩ := h
  exact ⟨cur, hk.trans hb, hc⟩
theorem Arr.drew (h : Arr w blk N d) : Arr w.drew blk N d := h
theorem Arr.drewN (h : Arr w blk N d) (n : Nat) : Arr (w.drewN n) blk N d := h
theorem Arr.congr {d' : Nat → TB} (h : Arr w blk N d) (hd : ∀ i, i < N → d' i = d i) : Arr w blk N d' := by
  obtain ⟨cur, hb, hc⟩ := h
  exact ⟨cur, hb, fun i j hi hj => by rw [hd i hi]; exact hc i j hi hj⟩
end
/-- Element i stored anew, cell by cell. -/
def put11 (w : World) (blk i : Nat) (x : TB) : World :=
  ((((((((((w.setCell ⟨blk, i * 11, none⟩ (.int .i64 x.f0.f0)).setCell ⟨blk, i * 11 + 1, none⟩ (.int .i64 x.f0.f1)).setCell ⟨blk, i * 11 + 2, none⟩ (.int .i64 x.f0.f2)).setCell ⟨blk, i * 11 + 3, none⟩ (.int .i64 x.f1)).setCell ⟨blk, i * 11 + 4, none⟩ (.int .i64 x.f2)).setCell ⟨blk, i * 11 + 5, none⟩ (.int .i64 x.f3)).setCell ⟨blk, i * 11 + 6, none⟩ (.int .i64 x.f4)).setCell ⟨blk, i * 11 + 7, none⟩ (.int .i64 x.f5)).setCell ⟨blk, i * 11 + 8, none⟩ (.int .i64 x.f6)).setCell ⟨blk, i * 11 + 9, none⟩ (.int .i64 x.f7)).setCell ⟨blk, i * 11 + 10, none⟩ (.int .i64 x.f8)
theorem grownBy_trans {w w1 w2 : World} {g : Nat} (h : w.grownBy w1 (some g)) (h' : w1.grownBy w2 (some g)) : w.grownBy w2 (some g) :=
  ⟨h'.os.trans h.os, h'.tape.trans h.tape, h'.output.trans h.output, Nat.le_trans h.size h'.size, fun k hk hne => (h'.block k (Nat.lt_of_lt_of_le hk h.size) hne).trans (h.block k hk hne)⟩
theorem grownBy_refl (w : World) (r : Option Nat) : w.grownBy w r := ⟨rfl, rfl, rfl, Nat.le_refl _, fun _ _ _ => rfl⟩
theorem grownBy_drew {w w1 : World} {r : Option Nat} (h : w.grownBy w1 r) : w.grownBy w1.drew r := ⟨h.os, h.tape, h.output, h.size, h.block⟩
theorem grownBy_drewN {w w1 : World} {r : Option Nat} (h : w.grownBy w1 r) (n : Nat) : w.grownBy (w1.drewN n) r := ⟨h.os, h.tape, h.output, h.size, h.block⟩
theorem put11_grown (w : World) (blk i : Nat) (x : TB) : w.grownBy (put11 w blk i x) (some blk) := by
  unfold put11
  repeat (first | (with_reducible exact grownBy_refl _ _) | (with_reducible refine grownBy_trans ?_ (grownBy_set _ _ _)))
theorem put11_heap {w : World} {blk i t : Nat} {x : TB} {cur : Array Value} (hb : w.heap[blk]? = some (.cells cur t (0, 0))) :
    (put11 w blk i x).heap[blk]? = some (.cells (((((((((((cur.setIfInBounds (i * 11) (.int .i64 x.f0.f0)).setIfInBounds (i * 11 + 1) (.int .i64 x.f0.f1)).setIfInBounds (i * 11 + 2) (.int .i64 x.f0.f2)).setIfInBounds (i * 11 + 3) (.int .i64 x.f1)).setIfInBounds (i * 11 + 4) (.int .i64 x.f2)).setIfInBounds (i * 11 + 5) (.int .i64 x.f3)).setIfInBounds (i * 11 + 6) (.int .i64 x.f4)).setIfInBounds (i * 11 + 7) (.int .i64 x.f5)).setIfInBounds (i * 11 + 8) (.int .i64 x.f6)).setIfInBounds (i * 11 + 9) (.int .i64 x.f7)).setIfInBounds (i * 11 + 10) (.int .i64 x.f8)) t (0, 0)) := by
  unfold put11
  exact blk_set (blk_set (blk_set (blk_set (blk_set (blk_set (blk_set (blk_set (blk_set (blk_set (blk_set hb _ _) _ _) _ _) _ _) _ _) _ _) _ _) _ _) _ _) _ _) _ _
theorem Arr.put {w : World} {blk N : Nat} {d : Nat → TB} (h : Arr w blk N d) {i : Nat} (hi : i < N) (x : TB) : Arr (put11 w blk i x) blk N (upd d i x) := by
  obtain ⟨cur, hb, hc⟩ := h
  refine ⟨_, put11_heap hb, fun k j hk hj => ?_⟩
  have hs : ∀ j, j < 11 → i * 11 + j < cur.size := fun j hj => (Array.getElem?_eq_some_iff.1 (hc i j hi hj)).1
  by_cases e : k = i
  · subst e
    rw [upd_same]
    have hs' := hs j hj
    match j, hj with
    | 0, _ => simp [Array.getElem?_setIfInBounds, cellB]; exact hs 0 (by omega)
    | 1, _ => simp [Array.getElem?_setIfInBounds, cellB]; exact hs 1 (by omega)
    | 2, _ => simp [Array.getElem?_setIfInBounds, cellB]; exact hs 2 (by omega)
    | 3, _ => simp [Array.getElem?_setIfInBounds, cellB]; exact hs 3 (by omega)
    | 4, _ => simp [Array.getElem?_setIfInBounds, cellB]; exact hs 4 (by omega)
    | 5, _ => simp [Array.getElem?_setIfInBounds, cellB]; exact hs 5 (by omega)
    | 6, _ => simp [Array.getElem?_setIfInBounds, cellB]; exact hs 6 (by omega)
    | 7, _ => simp [Array.getElem?_setIfInBounds, cellB]; exact hs 7 (by omega)
    | 8, _ => simp [Array.getElem?_setIfInBounds, cellB]; exact hs 8 (by omega)
    | 9, _ => simp [Array.getElem?_setIfInBounds, cellB]; exact hs 9 (by omega)
    | 10, _ => simp [Array.getElem?_setIfInBounds, cellB]; exact hs 10 (by omega)
  · rw [upd_other _ e]
    have hne : ∀ l, l < 11 → i * 11 + l ≠ k * 11 + j := fun l hl => by omega
    rw [Array.getElem?_setIfInBounds_ne (hne 10 (by omega)), Array.getElem?_setIfInBounds_ne (hne 9 (by omega)), Array.getElem?_setIfInBounds_ne (hne 8 (by omega)), Array.getElem?_setIfInBounds_ne (hne 7 (by omega)), Array.getElem?_setIfInBounds_ne (hne 6 (by omega)), Array.getElem?_setIfInBounds_ne (hne 5 (by omega)), Array.getElem?_setIfInBounds_ne (hne 4 (by omega)), Array.getElem?_setIfInBounds_ne (hne 3 (by omega)), Array.getElem?_setIfInBounds_ne (hne 2 (by omega)), Array.getElem?_setIfInBounds_ne (hne 1 (by omega)), Array.getElem?_setIfInBounds_ne (show i * 11 ≠ k * 11 + j by omega)]
    exact hc k j hk hj
theorem swap_grown (w : World) (blk i j : Nat) (x y : TB) : w.grownBy (put11 (put11 w blk i x) blk j y) (some blk) := grownBy_trans (put11_grown w blk i x) (put11_grown _ blk j y)
/-- Two exchanged. -/
def swp {α : Type} (d : Nat → α) (i j : Nat) : Nat → α := upd (upd d i (d j)) j (d i)
theorem Arr.swap {w : World} {blk N : Nat} {d : Nat → TB} (h : Arr w blk N d) {i j : Nat} (hi : i < N) (hj : j < N) : Arr (put11 (put11 w blk i (d j)) blk j (d i)) blk N (swp d i j) := (h.put hi _).put hj _
end Go.Proofs.Ythcgiacjmfmamaa.PA

namespace Go.Proofs.Ythcgiacjmfmamaa.PA
set_option linter.unusedVariables false
set_option linter.unusedSimpArgs false
open Go.RowKit Go.Proofs.YthcgiacjmfmamaaW.PrintWords
/-- n exchanged from a on with n from b on. -/
def swapR {α : Type} (d : Nat → α) (a b n : Nat) : Nat → α := fun k => if a ≤ k ∧ k < a + n then d (k - a + b) else if b ≤ k ∧ k < b + n then d (k - b + a) else d k
theorem swapR_succ {α : Type} (d : Nat → α) (a b n k i : Nat) (ha : a + n ≤ b) (hk : k < n) : swapR d a b (k + 1) i = swp (swapR d a b k) (a + k) (b + k) i := by
  unfold swp upd
  by_cases h1 : i = b + k
  · rw [if_pos h1]; unfold swapR
    rw [if_neg (by omega), if_pos (by omega), if_neg (by omega), if_neg (by omega)]
    congr 1; omega
  · rw [if_neg h1]
    by_cases h2 : i = a + k
    · rw [if_pos h2]; unfold swapR
      rw [if_pos (by omega), if_neg (by omega), if_neg (by omega)]
      congr 1; omega
    · rw [if_neg h2]; unfold swapR
      by_cases h3 : a ≤ i ∧ i < a + k
      · rw [if_pos (by omega), if_pos h3]
      · rw [if_neg (by omega), if_neg h3]
        by_cases h4 : b ≤ i ∧ i < b + k
        · rw [if_pos (by omega), if_pos h4]
        · rw [if_neg (by omega), if_neg h4]
set_option maxRecDepth 100000 in
set_option maxHeartbeats 1600000 in
theorem swapRange_x (w : World) (blk N cap : Nat) (d : Nat → TB) (a b n : Nat) (fv : Value) (h : Arr w blk N d) (ha : a + n ≤ b) (hb : b + n ≤ N) (hN : N < 1000000) :
    Calls Try.prog 82 #[.slice (some ⟨blk, 0, none⟩) N cap, .int .i64 a, .int .i64 b, .int .i64 n, fv] w fun e w' => e = .returned (.tuple #[]) ∧ w.grownBy w' (some blk) ∧ Arr w' blk N (swapR d a b n) := by
  go_enter Try.func82, Try.ntmps82
  go_wp2
  go_loopg [10] n (fun gq v10 wr => ∃ k : Nat, v10 = .int .i64 k ∧ k + gq = n ∧ w.grownBy wr (some blk) ∧ Arr wr blk N (swapR d a b k))
  case atStart => exact ⟨0, rfl, by omega, grownBy_refl _ _, h.congr (fun i _ => by unfold swapR; rw [if_neg (by omega), if_neg (by omega)])⟩
  case round =>
    obtain ⟨k, rfl, hk, hg, hA⟩ := hrel
    cases gk with
    | zero =>
      obtain rfl : k = n := by omega
      go_wp2
      go_end0
      exact ⟨rfl, hg, hA⟩
    | succ g =>
      have hkn : k < n := by omega
      obtain ⟨p0, p1, p2, p3, p4, p5, p6, p7, p8, p9, p10⟩ := hA.cells (i := a + k) (by omega)
      obtain ⟨q0, q1, q2, q3, q4, q5, q6, q7, q8, q9, q10⟩ := hA.cells (i := b + k) (by omega)
      have hfz := hA.frozen
      have i0 : (0 : Int) ≤ (a : Int) + (k : Int) := by omega
      have i1 : (a : Int) + (k : Int) < (N : Int) := by omega
      have j0 : (0 : Int) ≤ (b : Int) + (k : Int) := by omega
      have j1 : (b : Int) + (k : Int) < (N : Int) := by omega
      go_wp2
      go_region
      go_wp2
      have hs := Arr.drew (hA.swap (i := a + k) (j := b + k) (by omega) (by omega))
      have hg2 := grownBy_drew (grownBy_trans hg (swap_grown wr blk (a + k) (b + k) (swapR d a b k (b + k)) (swapR d a b k (a + k))))
      unfold put11 at hs hg2
      go_roundg g
      case measure => omega
      case rel => exact ⟨k + 1, by go_num, by omega, hg2, hs.congr (fun i _ => swapR_succ d a b n k i ha hkn)⟩
end Go.Proofs.Ythcgiacjmfmamaa.PA

namespace Go.Proofs.Ythcgiacjmfmamaa.PA
set_option linter.unusedVariables false
set_option linter.unusedSimpArgs false
open Go.RowKit Go.Proofs.YthcgiacjmfmamaaW.PrintWords
/-- What lies from m on comes ahead of what lies from a on. -/
def rot {α : Type} (d : Nat → α) (a m b : Nat) : Nat → α := fun k => if a ≤ k ∧ k < a + (b - m) then d (k + (m - a)) else if a + (b - m) ≤ k ∧ k < b then d (k - (b - m)) else d k
theorem congr_at {α : Type} (d : Nat → α) {i j : Nat} (h : i = j) : d i = d j := by rw [h]
theorem rot_left {α : Type} (d : Nat → α) (m i j k : Nat) (hi : i ≤ m) (h : j < i) (hj : 0 < j) : rot (swapR d (m - i) m j) (m - (i - j)) m (m + j) k = rot d (m - i) m (m + j) k := by
  unfold rot swapR
  repeat' split
  all_goals first | (exfalso; omega) | (apply congr_at; omega)
theorem rot_right {α : Type} (d : Nat → α) (m i j k : Nat) (hi : i ≤ m) (h : i < j) (hj : 0 < i) : rot (swapR d (m - i) (m + j - i) i) (m - i) m (m + (j - i)) k = rot d (m - i) m (m + j) k := by
  unfold rot swapR
  repeat' split
  all_goals first | (exfalso; omega) | (apply congr_at; omega)
theorem rot_last {α : Type} (d : Nat → α) (m i k : Nat) (hi : i ≤ m) : swapR d (m - i) m i k = rot d (m - i) m (m + i) k := by
  unfold rot swapR
  repeat' split
  all_goals first | (exfalso; omega) | (apply congr_at; omega)
set_option maxRecDepth 100000 in
set_option maxHeartbeats 1600000 in
theorem rotate_x (w : World) (blk N cap : Nat) (d : Nat → TB) (a m b : Nat) (fv : Value) (h : Arr w blk N d) (ha : a < m) (hm : m < b) (hb : b ≤ N) (hN : N < 1000000) :
    Calls Try.prog 81 #[.slice (some ⟨blk, 0, none⟩) N cap, .int .i64 a, .int .i64 m, .int .i64 b, fv] w fun e w' => e = .returned (.tuple #[]) ∧ w.grownBy w' (some blk) ∧ Arr w' blk N (rot d a m b) := by
  go_enter Try.func81, Try.ntmps81
  go_wp2
  go_loopg [10, 11] (b - a) (fun gq v10 v11 wr => ∃ (i j : Nat) (d' : Nat → TB), v10 = .int .i64 i ∧ v11 = .int .i64 j ∧ i + j = gq ∧ 0 < i ∧ 0 < j ∧ i ≤ m ∧ m + j ≤ N ∧ w.grownBy wr (some blk) ∧ Arr wr blk N d' ∧ ∀ k, rot d' (m - i) m (m + j) k = rot d a m b k)
  case atStart =>
    refine ⟨m - a, b - m, d, ?_, ?_, by omega, by omega, by omega, by omega, by omega, grownBy_refl _ _, h, fun k => ?_⟩
    · rw [show ((m - a : Nat) : Int) = (m : Int) - a by omega]
    · rw [show ((b - m : Nat) : Int) = (b : Int) - m by omega]
    · rw [show m - (m - a) = a by omega, show m + (b - m) = b by omega]
  case round =>
    obtain ⟨i, j, d', rfl, rfl, hij, hi0, hj0, him, hjN, hg, hA, hr⟩ := hrel
    by_cases hlt : j < i
    · have h1 : (((i : Int) != (j : Int)) = true) := by rw [bne_iff_ne]; omega
      have h2 : (j : Int) < (i : Int) := by omega
      have hc := swapRange_x wr blk N cap d' (m - i) m j fv hA (by omega) (by omega) hN
      rw [show ((m - i : Nat) : Int) = (m : Int) - i by omega] at hc
      go_wp2_with (go_at_call 82; refine hc.mono ?_; rintro e w' ⟨rfl, hg', hA'⟩)
      go_roundg (i - j + j)
      case measure => omega
      case rel => exact ⟨i - j, j, _, by rw [show ((i - j : Nat) : Int) = (i : Int) - j by omega], rfl, rfl, by omega, hj0, by omega, hjN, grownBy_trans hg hg', hA', fun k => (rot_left d' m i j k him hlt hj0).trans (hr k)⟩
    · by_cases hgt : i < j
      · have h1 : (((i : Int) != (j : Int)) = true) := by rw [bne_iff_ne]; omega
        have h2 : ¬ (j : Int) < (i : Int) := by omega
        have hc := swapRange_x wr blk N cap d' (m - i) (m + j - i) i fv hA (by omega) (by omega) hN
        rw [show ((m - i : Nat) : Int) = (m : Int) - i by omega, show ((m + j - i : Nat) : Int) = (m : Int) + j - i by omega] at hc
        go_wp2_with (go_at_call 82; refine hc.mono ?_; rintro e w' ⟨rfl, hg', hA'⟩)
        go_roundg (i + (j - i))
        case measure => omega
        case rel => exact ⟨i, j - i, _, rfl, by rw [show ((j - i : Nat) : Int) = (j : Int) - i by omega], rfl, hi0, by omega, him, by omega, grownBy_trans hg hg', hA', fun k => (rot_right d' m i j k him hgt hi0).trans (hr k)⟩
      · obtain rfl : i = j := by omega
        have h1 : (((i : Int) != (i : Int)) = false) := by simp
        have hc := swapRange_x wr blk N cap d' (m - i) m i fv hA (by omega) (by omega) hN
        rw [show ((m - i : Nat) : Int) = (m : Int) - i by omega] at hc
        go_wp2_with (go_at_call 82; refine hc.mono ?_; rintro e w' ⟨rfl, hg', hA'⟩)
        go_end0
        exact ⟨rfl, grownBy_trans hg hg', hA'.congr (fun k _ => by rw [← hr k, rot_last d' m i k him])⟩
end Go.Proofs.Ythcgiacjmfmamaa.PA

namespace Go.Proofs.Ythcgiacjmfmamaa.PA
set_option linter.unusedVariables false
set_option linter.unusedSimpArgs false
section
variable {α : Type}
/-- What stands from a on, up to b. -/
def seg (a b : Nat) (d : Nat → α) : List α := (List.range' a (b - a)).map d
theorem seg_congr {a b : Nat} {d e : Nat → α} (h : ∀ i, a ≤ i → i < b → d i = e i) : seg a b d = seg a b e := by
  unfold seg
  refine List.map_congr_left (fun i hi => ?_)
  rw [List.mem_range'_1] at hi
  exact h i hi.1 (by omega)
theorem seg_split {a c b : Nat} (h1 : a ≤ c) (h2 : c ≤ b) (d : Nat → α) : seg a b d = seg a c d ++ seg c b d := by
  unfold seg
  rw [← List.map_append]
  congr 1
  have := List.range'_append_1 (s := a) (m := c - a) (n := b - c)
  rw [show a + (c - a) = c by omega, show (c - a) + (b - c) = b - a by omega] at this
  exact this.symm
theorem seg_one (a : Nat) (d : Nat → α) : seg a (a + 1) d = [d a] := by
  unfold seg
  rw [show a + 1 - a = 1 by omega]; rfl
theorem seg_none (a b : Nat) (h : b ≤ a) (d : Nat → α) : seg a b d = [] := by
  unfold seg
  rw [show b - a = 0 by omega]; rfl
theorem seg_length (a b : Nat) (d : Nat → α) : (seg a b d).length = b - a := by simp [seg]
theorem mem_seg {a b : Nat} {d : Nat → α} {x : α} : x ∈ seg a b d ↔ ∃ i, a ≤ i ∧ i < b ∧ d i = x := by
  unfold seg
  rw [List.mem_map]
  constructor
  · rintro ⟨i, hi, rfl⟩
    rw [List.mem_range'_1] at hi
    exact ⟨i, hi.1, by omega, rfl⟩
  · rintro ⟨i, h1, h2, rfl⟩
    exact ⟨i, by rw [List.mem_range'_1]; omega, rfl⟩
/-- d' is d rearranged between a and b, and d elsewhere. -/
structure PermOn (a b : Nat) (d d' : Nat → α) : Prop where
  perm : (seg a b d').Perm (seg a b d)
  out : ∀ i, i < a ∨ b ≤ i → d' i = d i
theorem PermOn.refl (a b : Nat) (d : Nat → α) : PermOn a b d d := ⟨List.Perm.refl _, fun _ _ => rfl⟩
theorem PermOn.trans {a b : Nat} {d e f : Nat → α} (h : PermOn a b d e) (h' : PermOn a b e f) : PermOn a b d f := ⟨h'.perm.trans h.perm, fun i hi => (h'.out i hi).trans (h.out i hi)⟩
theorem PermOn.of_eq {a b : Nat} {d d' : Nat → α} (h : ∀ i, d' i = d i) : PermOn a b d d' := ⟨by rw [seg_congr (fun i _ _ => h i)], fun i _ => h i⟩
theorem PermOn.mono {a b a' b' : Nat} {d d' : Nat → α} (h : PermOn a b d d') (ha : a' ≤ a) (hb : b ≤ b') : PermOn a' b' d d' := by
  by_cases hab : a ≤ b
  · refine ⟨?_, fun i hi => h.out i (by omega)⟩
    rw [seg_split (show a' ≤ a by omega) (show a ≤ b' by omega) d', seg_split (show a ≤ b by omega) (show b ≤ b' by omega) d', seg_split (show a' ≤ a by omega) (show a ≤ b' by omega) d, seg_split (show a ≤ b by omega) (show b ≤ b' by omega) d,
      seg_congr (a := a') (b := a) (fun i _ hi => h.out i (by omega)), seg_congr (a := b) (b := b') (fun i hi _ => h.out i (by omega))]
    exact (h.perm.append_right _).append_left _
  · have e : ∀ i, d' i = d i := fun i => h.out i (by omega)
    exact PermOn.of_eq e
theorem PermOn.mem {a b : Nat} {d d' : Nat → α} (h : PermOn a b d d') {i : Nat} (h1 : a ≤ i) (h2 : i < b) : ∃ j, a ≤ j ∧ j < b ∧ d' i = d j := by
  have : d' i ∈ seg a b d := h.perm.mem_iff.1 (mem_seg.2 ⟨i, h1, h2, rfl⟩)
  obtain ⟨j, j1, j2, e⟩ := mem_seg.1 this
  exact ⟨j, j1, j2, e.symm⟩
theorem swp_at (d : Nat → α) (p q i : Nat) : swp d p q i = if i = q then d p else if i = p then d q else d i := by
  unfold swp upd; rfl
theorem PermOn.swp {a b : Nat} (d : Nat → α) {p q : Nat} (hpq : p < q) (hp : a ≤ p) (hq : q < b) : PermOn a b d (swp d p q) := by
  refine ⟨?_, fun i hi => ?_⟩
  · have e1 : ∀ e : Nat → α, seg a b e = seg a p e ++ (e p :: (seg (p + 1) q e ++ (e q :: seg (q + 1) b e))) := fun e => by
      rw [seg_split (show a ≤ p by omega) (show p ≤ b by omega) e, seg_split (show p ≤ p + 1 by omega) (show p + 1 ≤ b by omega) e, seg_one, seg_split (show p + 1 ≤ q by omega) (show q ≤ b by omega) e, seg_split (show q ≤ q + 1 by omega) (show q + 1 ≤ b by omega) e, seg_one]
      rfl
    rw [e1 (Go.Proofs.Ythcgiacjmfmamaa.PA.swp d p q), e1 d]
    rw [seg_congr (a := a) (b := p) (e := d) (fun i _ hi => by rw [swp_at, if_neg (by omega), if_neg (by omega)]), seg_congr (a := p + 1) (b := q) (e := d) (fun i _ hi => by rw [swp_at, if_neg (by omega), if_neg (by omega)]),
      seg_congr (a := q + 1) (b := b) (e := d) (fun i _ hi => by rw [swp_at, if_neg (by omega), if_neg (by omega)]), swp_at, if_neg (by omega), if_pos rfl, swp_at, if_pos rfl]
    refine List.Perm.append_left _ ?_
    refine (List.Perm.cons _ (List.perm_middle)).trans ?_
    refine (List.Perm.swap _ _ _).trans ?_
    exact List.Perm.cons _ (List.perm_middle).symm
  · rw [swp_at, if_neg (by omega), if_neg (by omega)]
theorem swp_comm (d : Nat → α) (p q : Nat) (i : Nat) : swp d p q i = swp d q p i := by
  rw [swp_at, swp_at]
  by_cases h1 : i = q
  · by_cases h2 : i = p
    · rw [if_pos h1, if_pos h2, ← h1, ← h2]
    · rw [if_pos h1, if_neg h2, if_pos h1]
  · rw [if_neg h1]
    by_cases h2 : i = p
    · rw [if_pos h2, if_pos h2]
    · rw [if_neg h2, if_neg h2, if_neg h1]
theorem PermOn.congr {a b : Nat} {d e f : Nat → α} (h : PermOn a b d e) (hf : ∀ i, f i = e i) : PermOn a b d f := h.trans (PermOn.of_eq hf)
theorem PermOn.rot {a m b : Nat} (d : Nat → α) (ha : a ≤ m) (hm : m ≤ b) : PermOn a b d (rot d a m b) := by
  have hshift : ∀ (s t n : Nat) (e f : Nat → α), (∀ i, i < n → e (s + i) = f (t + i)) → seg s (s + n) e = seg t (t + n) f := fun s t n e f h => by
    unfold seg
    rw [show s + n - s = n by omega, show t + n - t = n by omega]
    apply List.ext_getElem
    · simp
    · intro i h1 h2
      simp at h1 ⊢
      exact h i h1
  refine ⟨?_, fun i hi => by unfold Go.Proofs.Ythcgiacjmfmamaa.PA.rot; rw [if_neg (by omega), if_neg (by omega)]⟩
  rw [seg_split (show a ≤ a + (b - m) by omega) (show a + (b - m) ≤ b by omega) (Go.Proofs.Ythcgiacjmfmamaa.PA.rot d a m b), seg_split ha hm d]
  have e1 := hshift a m (b - m) (Go.Proofs.Ythcgiacjmfmamaa.PA.rot d a m b) d (fun i hi => by unfold Go.Proofs.Ythcgiacjmfmamaa.PA.rot; rw [if_pos (by omega)]; congr 1; omega)
  have e2 := hshift (a + (b - m)) a (m - a) (Go.Proofs.Ythcgiacjmfmamaa.PA.rot d a m b) d (fun i hi => by unfold Go.Proofs.Ythcgiacjmfmamaa.PA.rot; rw [if_neg (by omega), if_pos (by omega)]; congr 1; omega)
  rw [show m + (b - m) = b by omega] at e1
  rw [show a + (b - m) + (m - a) = b by omega, show a + (m - a) = m by omega] at e2
  rw [e1, e2]
  exact List.perm_append_comm
end

/-- What a comparing function owes. -/
structure CmpLaw {β : Type} (cf : β → β → Int) : Prop where
  anti : ∀ x y, cf x y < 0 ↔ 0 < cf y x
  trans : ∀ x y z, cf x y ≤ 0 → cf y z ≤ 0 → cf x z ≤ 0
section
variable {β : Type} {cf : β → β → Int} (L : CmpLaw cf) (og : Nat → β)
theorem CmpLaw.zero {cf : β → β → Int} (L : CmpLaw cf) {x y : β} (h : cf x y = 0) : cf y x = 0 := by
  have h1 := L.anti x y
  have h2 := L.anti y x
  omega
/-- The place x comes ahead of the place y: og x is less, or they are alike and x is ahead. -/
def less (cf : β → β → Int) (og : Nat → β) (x y : Nat) : Prop := cf (og x) (og y) < 0 ∨ (cf (og x) (og y) = 0 ∧ x < y)
theorem less_trans {cf : β → β → Int} (L : CmpLaw cf) {og : Nat → β} {x y z : Nat} (h : less cf og x y) (h' : less cf og y z) : less cf og x z := by
  have t1 := L.trans (og x) (og y) (og z)
  have t2 := L.trans (og y) (og z) (og x)
  have t3 := L.trans (og z) (og x) (og y)
  have a1 := L.anti (og x) (og y)
  have a2 := L.anti (og y) (og z)
  have a3 := L.anti (og x) (og z)
  have b1 := L.anti (og y) (og x)
  have b2 := L.anti (og z) (og y)
  have b3 := L.anti (og z) (og x)
  unfold less at *
  omega
theorem less_total {cf : β → β → Int} (L : CmpLaw cf) {og : Nat → β} {x y : Nat} (h : x ≠ y) : less cf og x y ∨ less cf og y x := by
  have a1 := L.anti (og x) (og y)
  have a2 := L.anti (og y) (og x)
  unfold less
  omega
theorem less_irrefl {cf : β → β → Int} (L : CmpLaw cf) {og : Nat → β} {x : Nat} (h : less cf og x x) : False := by
  have a1 := L.anti (og x) (og x)
  unfold less at h
  omega
/-- Where x stood ahead of y, the test 'is y less than x?' parts them. -/
theorem less_of_test {cf : β → β → Int} (L : CmpLaw cf) {og : Nat → β} {x y : Nat} (hxy : x < y) (h : ¬ cf (og y) (og x) < 0) : less cf og x y := by
  have a1 := L.anti (og x) (og y)
  have a2 := L.anti (og y) (og x)
  unfold less
  omega
theorem test_of_less {cf : β → β → Int} (L : CmpLaw cf) {og : Nat → β} {x y : Nat} (hxy : x < y) (h : less cf og x y) : ¬ cf (og y) (og x) < 0 := by
  have a1 := L.anti (og x) (og y)
  have a2 := L.anti (og y) (og x)
  unfold less at h
  omega
/-- Between a and b the places stand in order. -/
def SortedOn (cf : β → β → Int) (og : Nat → β) (a b : Nat) (D : Nat → Nat) : Prop := ∀ p q, a ≤ p → p < q → q < b → less cf og (D p) (D q)
end
end Go.Proofs.Ythcgiacjmfmamaa.PA

namespace Go.Proofs.Ythcgiacjmfmamaa.PA
set_option linter.unusedVariables false
set_option linter.unusedSimpArgs false
open Go.RowKit Go.Proofs.YthcgiacjmfmamaaW.PrintWords
section
variable {β : Type} {cf : β → β → Int} {og : Nat → β}
/-- Inside a round of the insertion: what stands at j is on its way down. -/
structure Ins (cf : β → β → Int) (og : Nat → β) (a i j : Nat) (D D1 : Nat → Nat) : Prop where
  perm : PermOn a (i + 1) D D1
  ord : ∀ p q, a ≤ p → p < q → q ≤ i → q ≠ j → less cf og (D1 p) (D1 q)
  tag : ∀ p, a ≤ p → p ≤ i → p ≠ j → D1 p < D1 j
  lo : a ≤ j
  hi : j ≤ i
theorem Ins.start {a i : Nat} {D : Nat → Nat} (hai : a ≤ i) (hs : SortedOn cf og a i D) (ht : ∀ p, a ≤ p → p < i → D p < D i) : Ins cf og a i i D D :=
  ⟨PermOn.refl _ _ _, fun p q hp hpq hq hne => hs p q hp hpq (by omega), fun p hp hpi hne => ht p hp (by omega), hai, Nat.le_refl _⟩
theorem Ins.step {a i j : Nat} {D D1 : Nat → Nat} (h : Ins cf og a i (j + 1) D D1) (hj : a ≤ j) (ht : cf (og (D1 (j + 1))) (og (D1 j)) < 0) : Ins cf og a i j D (swp D1 (j + 1) j) := by
  have hji := h.hi
  refine ⟨h.perm.trans ((PermOn.swp D1 (show j < j + 1 by omega) hj (by omega)).congr (swp_comm _ _ _)), ?_, ?_, hj, by omega⟩
  · intro p q hp hpq hq hne
    rw [swp_at, swp_at, if_neg hne]
    by_cases hq1 : q = j + 1
    · rw [if_pos hq1]
      by_cases hpj : p = j
      · rw [if_pos hpj]; exact .inl ht
      · rw [if_neg hpj, if_neg (by omega)]; exact h.ord p j hp (by omega) (by omega) (by omega)
    · rw [if_neg hq1]
      by_cases hpj : p = j
      · rw [if_pos hpj]; exact h.ord (j + 1) q (by omega) (by omega) hq (by omega)
      · rw [if_neg hpj]
        by_cases hp1 : p = j + 1
        · rw [if_pos hp1]; exact h.ord j q hj (by omega) hq (by omega)
        · rw [if_neg hp1]; exact h.ord p q hp hpq hq hq1
  · intro p hp hpi hne
    rw [swp_at, swp_at, if_neg hne, if_pos rfl]
    by_cases hp1 : p = j + 1
    · rw [if_pos hp1]; exact h.tag j hj (by omega) (by omega)
    · rw [if_neg hp1]; exact h.tag p hp hpi hp1
theorem Ins.stop (L : CmpLaw cf) {a i j : Nat} {D D1 : Nat → Nat} (h : Ins cf og a i j D D1) (ht : a < j → ¬ cf (og (D1 j)) (og (D1 (j - 1))) < 0) : SortedOn cf og a (i + 1) D1 := by
  intro p q hp hpq hq
  have hji := h.hi
  by_cases hqj : q = j
  · subst hqj
    have h1 : less cf og (D1 (q - 1)) (D1 q) := less_of_test L (h.tag (q - 1) (by omega) (by omega) (by omega)) (ht (by omega))
    by_cases hpe : p = q - 1
    · rw [hpe]; exact h1
    · exact less_trans L (h.ord p (q - 1) hp (by omega) (by omega) (by omega)) h1
  · exact h.ord p q hp hpq (by omega) hqj
end
def bunA (x : TB) : Array Value := #[.int .i64 x.f0.f0, .int .i64 x.f0.f1, .int .i64 x.f0.f2, .int .i64 x.f1, .int .i64 x.f2, .int .i64 x.f3, .int .i64 x.f4, .int .i64 x.f5, .int .i64 x.f6, .int .i64 x.f7, .int .i64 x.f8]
/-- What the function g, that has captured lb, answers wherever no block but blk has turned since w. -/
def CmpOK (g : FuncId) (lb : Array Value) (blk : Nat) (w : World) (cf : TB → TB → Int) : Prop :=
  ∀ (W : World) (x y : TB), w.grownBy W (some blk) → Calls Try.prog g (#[.agg #[.int .i64 x.f0.f0, .int .i64 x.f0.f1, .int .i64 x.f0.f2, .int .i64 x.f1, .int .i64 x.f2, .int .i64 x.f3, .int .i64 x.f4, .int .i64 x.f5, .int .i64 x.f6, .int .i64 x.f7, .int .i64 x.f8], .agg #[.int .i64 y.f0.f0, .int .i64 y.f0.f1, .int .i64 y.f0.f2, .int .i64 y.f1, .int .i64 y.f2, .int .i64 y.f3, .int .i64 y.f4, .int .i64 y.f5, .int .i64 y.f6, .int .i64 y.f7, .int .i64 y.f8]] ++ lb) W fun e W' =>
    e = .returned (.int .i64 (cf x y)) ∧ Below W.heap.size W W'
theorem CmpOK.grown {g : FuncId} {lb : Array Value} {blk : Nat} {w w1 : World} {cf : TB → TB → Int} (h : CmpOK g lb blk w cf) (hg : w.grownBy w1 (some blk)) : CmpOK g lb blk w1 cf := fun W x y hW => h W x y (grownBy_trans hg hW)
theorem grownBy_below {w w1 w2 : World} {blk : Nat} (hg : w.grownBy w1 (some blk)) (hb : Below w1.heap.size w1 w2) : w.grownBy w2 (some blk) :=
  ⟨hb.os.trans hg.os, hb.tape.trans hg.tape, hb.output.trans hg.output, Nat.le_trans hg.size hb.size, fun k hk hne => (hb.block k (Nat.lt_of_lt_of_le hk hg.size)).trans (hg.block k hk hne)⟩
set_option maxRecDepth 100000 in
set_option maxHeartbeats 1600000 in
theorem insertion_x (w : World) (blk N cap : Nat) (og : Nat → TB) (D0 : Nat → Nat) (a b : Nat) (g : FuncId) (lb : Array Value) (cf : TB → TB → Int) (L : CmpLaw cf) (eg : ∀ args w, (callFunc g args).run Try.prog w = .ok (.enter g args) w)
    (hc : CmpOK g lb blk w cf) (h : Arr w blk N (fun i => og (D0 i))) (hb : b ≤ N) (ha : a ≤ N) (hN : N < 1000000) (ht : ∀ p q, a ≤ p → p < q → q < b → D0 p < D0 q) :
    Calls Try.prog 77 #[.slice (some ⟨blk, 0, none⟩) N cap, .int .i64 a, .int .i64 b, .func (.func g) #[] lb] w fun e w' => e = .returned (.tuple #[]) ∧ w.grownBy w' (some blk) ∧ ∃ D, Arr w' blk N (fun i => og (D i)) ∧ PermOn a b D0 D ∧ SortedOn cf og a b D := by
  go_enter Try.func77, Try.ntmps77
  go_wp2
  go_loopg [8] (b - (a + 1)) (fun gq v8 wr => ∃ (i : Nat) (D : Nat → Nat), v8 = .int .i64 i ∧ a + 1 ≤ i ∧ gq = b - i ∧ (i ≤ b ∨ i = a + 1) ∧ w.grownBy wr (some blk) ∧ Arr wr blk N (fun i => og (D i)) ∧ PermOn a i D0 D ∧ SortedOn cf og a i D)
  case atStart => exact ⟨a + 1, D0, by go_num, Nat.le_refl _, rfl, .inr rfl, grownBy_refl _ _, h, PermOn.refl _ _ _, fun p q hp hpq hq => by omega⟩
  case round =>
    obtain ⟨i, D, rfl, hai, hgq, hib, hg, hA, hP, hS⟩ := hrel
    by_cases hlt : i < b
    · have hib' : (i : Int) < (b : Int) := by omega
      have htag : ∀ p, a ≤ p → p < i → D p < D i := fun p hp hpi => by
        obtain ⟨j, j1, j2, e⟩ := hP.mem hp hpi
        rw [e, hP.out i (by omega)]
        exact ht j i j1 j2 hlt
      have hI := Ins.start (cf := cf) (og := og) (a := a) (i := i) (D := D) (by omega) hS htag
      have HP := Aside0.mk hP
      have HT := Aside0.mk ht
      clear hS htag hP ht
      go_wp2
      go_loopg [9] (i - a) (fun gj v9 wj => ∃ (j : Nat) (D1 : Nat → Nat), v9 = .int .i64 j ∧ gj = j - a ∧ w.grownBy wj (some blk) ∧ Arr wj blk N (fun i => og (D1 i)) ∧ Ins cf og a i j D D1)
      case atStart => exact ⟨i, D, rfl, rfl, hg, hA, hI⟩
      case round =>
        clear hI hg hA
        obtain ⟨j, D1, rfl, hgj, hg, hA, hI⟩ := hrel
        have hja := hI.lo
        have hji := hI.hi
        by_cases hlt2 : a < j
        · have g1 : (a : Int) < (j : Int) := by omega
          obtain ⟨p0, p1, p2, p3, p4, p5, p6, p7, p8, p9, p10⟩ := hA.cells (i := j) (by omega)
          obtain ⟨q0, q1, q2, q3, q4, q5, q6, q7, q8, q9, q10⟩ := hA.cells (i := j - 1) (by omega)
          have i0 : (0 : Int) ≤ (j : Int) := by omega
          have i1 : (j : Int) < (N : Int) := by omega
          have j0 : (0 : Int) ≤ (j : Int) - 1 := by omega
          have j1 : (j : Int) - 1 < (N : Int) := by omega
          go_wp2
          have s1 : IntKind.i64.wrap ((j : Int) - 1) = (j : Int) - 1 := IntWalk.i64_in _ (by omega)
          have s2 : ((j : Int) - 1).toNat = j - 1 := by omega
          have s3 : (1 : Int) ≤ (j : Int) := by omega
          go_still_tail 14, (by kernel_rfl)
          change wpList _ _ _ _ _ (World.drew _)
          clear p0 p1 p2 p3 p4 p5 p6 p7 p8 p9 p10 q0 q1 q2 q3 q4 q5 q6 q7 q8 q9 q10
          have hcc := hc wr.drew (og (D1 j)) (og (D1 (j - 1))) (grownBy_drew hg)
          by_cases hcmp : cf (og (D1 j)) (og (D1 (j - 1))) < 0
          · go_wp2_with ((with_reducible refine hcc.mono ?_); rintro e W' ⟨rfl, hbW⟩)
            have hg' := grownBy_below (grownBy_drew hg) hbW
            have hA' := (Arr.drew hA).kept (hbW.block blk hA.lt)
            obtain ⟨p0, p1, p2, p3, p4, p5, p6, p7, p8, p9, p10⟩ := hA'.cells (i := j) (by omega)
            obtain ⟨q0, q1, q2, q3, q4, q5, q6, q7, q8, q9, q10⟩ := hA'.cells (i := j - 1) (by omega)
            have hfz := hA'.frozen
            go_region
            go_wp2
            have hs := Arr.drew (hA'.swap (i := j) (j := j - 1) (by omega) (by omega))
            have hg2 := grownBy_drew (grownBy_trans hg' (swap_grown W' blk j (j - 1) (og (D1 (j - 1))) (og (D1 j))))
            unfold put11 at hs hg2
            go_roundg (j - 1 - a)
            case measure => omega
            case rel =>
              obtain ⟨j', rfl⟩ : ∃ j', j = j' + 1 := ⟨j - 1, by omega⟩
              refine ⟨j', swp D1 (j' + 1) j', by go_num, rfl, hg2, hs.congr (fun k _ => ?_), hI.step (by omega) hcmp⟩
              rw [swp_at, swp_at]
              simp only [Nat.add_sub_cancel]
              by_cases e1 : k = j'
              · rw [if_pos e1, if_pos e1]
              · rw [if_neg e1, if_neg e1]
                by_cases e2 : k = j' + 1
                · rw [if_pos e2, if_pos e2]
                · rw [if_neg e2, if_neg e2]
          · go_wp2_with ((with_reducible refine hcc.mono ?_); rintro e W' ⟨rfl, hbW⟩)
            have hg' := grownBy_below (grownBy_drew hg) hbW
            have hA' := (Arr.drew hA).kept (hbW.block blk hA.lt)
            go_roundg (b - (i + 1))
            case measure => omega
            case rel => exact ⟨i + 1, D1, by go_num, by omega, rfl, .inl (by omega), hg', hA', (HP.out.mono (Nat.le_refl _) (by omega)).trans hI.perm, hI.stop L (fun _ => by omega)⟩
        · have hje : j = a := by omega
          subst hje
          have hd : decide ((j : Int) < (j : Int)) = false := by simp
          go_wp2
          go_quiet (fail)
          go_wp2
          go_roundg (b - (i + 1))
          case measure => omega
          case rel => exact ⟨i + 1, D1, by go_num, by omega, rfl, .inl (by omega), grownBy_drewN hg _, Arr.drewN hA _, (HP.out.mono (Nat.le_refl _) (by omega)).trans hI.perm, hI.stop L (fun h => by omega)⟩
    · have hib' : ¬ (i : Int) < (b : Int) := by omega
      go_wp2
      go_end0
      refine ⟨rfl, hg, D, hA, ?_, ?_⟩
      · rcases hib with h' | h'
        · exact hP.mono (Nat.le_refl _) h'
        · by_cases hab : i ≤ b
          · exact hP.mono (Nat.le_refl _) hab
          · exact PermOn.of_eq (fun k => by
              by_cases hk : a ≤ k ∧ k < i
              · obtain ⟨j, j1, j2, e⟩ := hP.mem hk.1 hk.2
                rw [e]; congr 1; omega
              · exact hP.out k (by omega))
      · intro p q hp hpq hq
        exact hS p q hp hpq (by omega)
end Go.Proofs.Ythcgiacjmfmamaa.PA

namespace Go.Proofs.Ythcgiacjmfmamaa.PA
set_option linter.unusedVariables false
set_option linter.unusedSimpArgs false
section
variable {β : Type} {cf : β → β → Int} {og : Nat → β}
/-- Two sorted pieces, of which the first one's places stood ahead of the other's. -/
structure Sym (cf : β → β → Int) (og : Nat → β) (a m b : Nat) (D : Nat → Nat) : Prop where
  s1 : SortedOn cf og a m D
  s2 : SortedOn cf og m b D
  tg : ∀ p q, a ≤ p → p < m → m ≤ q → q < b → D p < D q
theorem rot_up {α : Type} (d : Nat → α) (a k i : Nat) (h : a ≤ k) : swp (rot d a (a + 1) (k + 1)) k (k + 1) i = rot d a (a + 1) (k + 2) i := by
  rw [swp_at]
  unfold rot
  repeat' split
  all_goals first | (exfalso; omega) | (apply congr_at; omega)
theorem rot_dn {α : Type} (d : Nat → α) (m k i : Nat) (h : k + 1 ≤ m) : swp (rot d (k + 1) m (m + 1)) (k + 1) k i = rot d k m (m + 1) i := by
  rw [swp_at]
  unfold rot
  repeat' split
  all_goals first | (exfalso; omega) | (apply congr_at; omega)
theorem rot_id {α : Type} (d : Nat → α) (a m i : Nat) : rot d a m m i = d i := by
  unfold rot
  repeat' split
  all_goals first | (exfalso; omega) | (apply congr_at; omega)
theorem rot_id' {α : Type} (d : Nat → α) (m b i : Nat) : rot d m m b i = d i := by
  unfold rot
  repeat' split
  all_goals first | (exfalso; omega) | (apply congr_at; omega)
/-- How a rotated row reads. -/
theorem rot_cases {α : Type} (d : Nat → α) (a m b i : Nat) (ha : a ≤ m) (hm : m ≤ b) :
    (i < a ∧ rot d a m b i = d i) ∨ (a ≤ i ∧ i < a + (b - m) ∧ rot d a m b i = d (i + (m - a))) ∨ (a + (b - m) ≤ i ∧ i < b ∧ rot d a m b i = d (i - (b - m))) ∨ (b ≤ i ∧ rot d a m b i = d i) := by
  unfold rot
  repeat' split
  all_goals simp
  all_goals omega
theorem sym_a (L : CmpLaw cf) {a b i : Nat} {D : Nat → Nat} (h : Sym cf og a (a + 1) b D) (hi : a + 1 ≤ i) (hib : i ≤ b) (h1 : ∀ p, a + 1 ≤ p → p < i → less cf og (D p) (D a)) (h2 : ∀ p, i ≤ p → p < b → less cf og (D a) (D p)) :
    SortedOn cf og a b (rot D a (a + 1) i) := by
  intro p q hp hpq hq
  rcases rot_cases D a (a + 1) i p (by omega) hi with ⟨c, e⟩ | ⟨c1, c2, e⟩ | ⟨c1, c2, e⟩ | ⟨c, e⟩ <;> rcases rot_cases D a (a + 1) i q (by omega) hi with ⟨k, e'⟩ | ⟨k1, k2, e'⟩ | ⟨k1, k2, e'⟩ | ⟨k, e'⟩ <;> rw [e, e']
  all_goals first
    | (exfalso; omega)
    | (exact h.s2 _ _ (by omega) (by omega) (by omega))
    | (rw [show q - (i - (a + 1)) = a by omega]; exact h1 _ (by omega) (by omega))
    | (rw [show p - (i - (a + 1)) = a by omega]; exact h2 _ (by omega) (by omega))
theorem sym_b (L : CmpLaw cf) {a m i : Nat} {D : Nat → Nat} (h : Sym cf og a m (m + 1) D) (hi : a ≤ i) (him : i ≤ m) (h1 : ∀ p, a ≤ p → p < i → less cf og (D p) (D m)) (h2 : ∀ p, i ≤ p → p < m → less cf og (D m) (D p)) :
    SortedOn cf og a (m + 1) (rot D i m (m + 1)) := by
  intro p q hp hpq hq
  rcases rot_cases D i m (m + 1) p him (by omega) with ⟨c, e⟩ | ⟨c1, c2, e⟩ | ⟨c1, c2, e⟩ | ⟨c, e⟩ <;> rcases rot_cases D i m (m + 1) q him (by omega) with ⟨k, e'⟩ | ⟨k1, k2, e'⟩ | ⟨k1, k2, e'⟩ | ⟨k, e'⟩ <;> rw [e, e']
  all_goals first
    | (exfalso; omega)
    | (exact h.s1 _ _ (by omega) (by omega) (by omega))
    | (rw [show q + (m - i) = m by omega]; exact h1 _ (by omega) (by omega))
    | (rw [show p + (m - i) = m by omega]; exact h2 _ (by omega) (by omega))
/-- The middle: where it is cut, and what the cut is worth. -/
structure Cut (cf : β → β → Int) (og : Nat → β) (a m b mid start : Nat) (D : Nat → Nat) : Prop where
  lo : a ≤ start
  him : start ≤ m
  hmid : start ≤ mid
  hend : mid + m - start ≤ b
  left : a < start → mid + m - start < b → less cf og (D (start - 1)) (D (mid + m - start))
  right : start < m → m < mid + m - start → less cf og (D (mid + m - start - 1)) (D start)
theorem Cut.sep (L : CmpLaw cf) {a m b mid start : Nat} {D : Nat → Nat} (h : Sym cf og a m b D) (ha : a < m) (hm : m < b) (hc : Cut cf og a m b mid start D) {p q : Nat} (hp : a ≤ p) (hpm : p < mid) (hq : mid ≤ q) (hqb : q < b) :
    less cf og (rot D start m (mid + m - start) p) (rot D start m (mid + m - start) q) := by
  obtain ⟨c1, c2, c3, c4, c5, c6⟩ := hc
  have hle : ∀ x y, a ≤ x → x ≤ y → y < m → x = y ∨ less cf og (D x) (D y) := fun x y hx hxy hy => by
    by_cases e : x = y
    · exact .inl e
    · exact .inr (h.s1 x y hx (by omega) hy)
  have hle2 : ∀ x y, m ≤ x → x ≤ y → y < b → x = y ∨ less cf og (D x) (D y) := fun x y hx hxy hy => by
    by_cases e : x = y
    · exact .inl e
    · exact .inr (h.s2 x y hx (by omega) hy)
  rcases rot_cases D start m (mid + m - start) p c2 (by omega) with ⟨k, e⟩ | ⟨k1, k2, e⟩ | ⟨k1, k2, e⟩ | ⟨k, e⟩ <;> rcases rot_cases D start m (mid + m - start) q c2 (by omega) with ⟨l, e'⟩ | ⟨l1, l2, e'⟩ | ⟨l1, l2, e'⟩ | ⟨l, e'⟩ <;> rw [e, e']
  · exfalso; omega
  · exfalso; omega
  · exact h.s1 _ _ hp (by omega) (by omega)
  · have h5 := c5 (by omega) (by omega)
    have r1 : p = start - 1 ∨ less cf og (D p) (D (start - 1)) := hle _ _ hp (by omega) (by omega)
    have r2 : mid + m - start = q ∨ less cf og (D (mid + m - start)) (D q) := hle2 _ _ (by omega) (by omega) hqb
    rcases r1 with r1 | r1 <;> rcases r2 with r2 | r2
    · rw [r1, ← r2]; exact h5
    · rw [r1]; exact less_trans L h5 r2
    · rw [← r2]; exact less_trans L r1 h5
    · exact less_trans L (less_trans L r1 h5) r2
  · exfalso; omega
  · exfalso; omega
  · have h6 := c6 (by omega) (by omega)
    have r1 : p + (m - start) = mid + m - start - 1 ∨ less cf og (D (p + (m - start))) (D (mid + m - start - 1)) := hle2 _ _ (by omega) (by omega) (by omega)
    have r2 : start = q - (mid + m - start - m) ∨ less cf og (D start) (D (q - (mid + m - start - m))) := hle _ _ (by omega) (by omega) (by omega)
    rcases r1 with r1 | r1 <;> rcases r2 with r2 | r2
    · rw [r1, ← r2]; exact h6
    · rw [r1]; exact less_trans L h6 r2
    · rw [← r2]; exact less_trans L r1 h6
    · exact less_trans L (less_trans L r1 h6) r2
  · exact h.s2 _ _ (by omega) (by omega) hqb
  all_goals (exfalso; omega)
/-- The left half is two sorted pieces again. -/
theorem Cut.symL {a m b mid start : Nat} {D : Nat → Nat} (h : Sym cf og a m b D) (hc : Cut cf og a m b mid start D) : Sym cf og a start mid (rot D start m (mid + m - start)) := by
  obtain ⟨c1, c2, c3, c4, c5, c6⟩ := hc
  have e1 : ∀ p, p < start → rot D start m (mid + m - start) p = D p := fun p hp => by unfold rot; rw [if_neg (by omega), if_neg (by omega)]
  have e2 : ∀ p, start ≤ p → p < mid → rot D start m (mid + m - start) p = D (p + (m - start)) := fun p hp hq => by unfold rot; rw [if_pos (by omega)]
  refine ⟨fun p q hp hpq hq => ?_, fun p q hp hpq hq => ?_, fun p q hp hpm hq hqb => ?_⟩
  · rw [e1 p (by omega), e1 q hq]; exact h.s1 _ _ hp hpq (by omega)
  · rw [e2 p hp (by omega), e2 q (by omega) hq]; exact h.s2 _ _ (by omega) (by omega) (by omega)
  · rw [e1 p hpm, e2 q hq hqb]; exact h.tg _ _ hp (by omega) (by omega) (by omega)
theorem Cut.symR {a m b mid start : Nat} {D : Nat → Nat} (h : Sym cf og a m b D) (hc : Cut cf og a m b mid start D) : Sym cf og mid (mid + m - start) b (rot D start m (mid + m - start)) := by
  obtain ⟨c1, c2, c3, c4, c5, c6⟩ := hc
  have e1 : ∀ p, mid ≤ p → p < mid + m - start → rot D start m (mid + m - start) p = D (p - (mid - start)) := fun p hp hq => by
    unfold rot; rw [if_neg (by omega), if_pos (by omega)]; congr 1; omega
  have e2 : ∀ p, mid + m - start ≤ p → rot D start m (mid + m - start) p = D p := fun p hp => by unfold rot; rw [if_neg (by omega), if_neg (by omega)]
  refine ⟨fun p q hp hpq hq => ?_, fun p q hp hpq hq => ?_, fun p q hp hpm hq hqb => ?_⟩
  · rw [e1 p hp (by omega), e1 q (by omega) hq]; exact h.s1 _ _ (by omega) (by omega) (by omega)
  · rw [e2 p hp, e2 q (by omega)]; exact h.s2 _ _ (by omega) hpq hq
  · rw [e1 p hp hpm, e2 q hq]; exact h.tg _ _ (by omega) (by omega) (by omega) hqb
theorem Sym.congr {a m b : Nat} {D E : Nat → Nat} (h : Sym cf og a m b D) (he : ∀ i, a ≤ i → i < b → E i = D i) (h1 : a ≤ m) (h2 : m ≤ b) : Sym cf og a m b E :=
  ⟨fun p q hp hpq hq => by rw [he p hp (by omega), he q (by omega) (by omega)]; exact h.s1 p q hp hpq hq, fun p q hp hpq hq => by rw [he p (by omega) (by omega), he q (by omega) hq]; exact h.s2 p q hp hpq hq,
    fun p q hp hpm hq hqb => by rw [he p hp (by omega), he q (by omega) hqb]; exact h.tg p q hp hpm hq hqb⟩
theorem Sym.trivL {a m b : Nat} {D : Nat → Nat} (h : Sym cf og a m b D) (ha : m ≤ a) : SortedOn cf og a b D := fun p q hp hpq hq => h.s2 p q (by omega) hpq hq
theorem Sym.trivR {a m b : Nat} {D : Nat → Nat} (h : Sym cf og a m b D) (hb : b ≤ m) : SortedOn cf og a b D := fun p q hp hpq hq => h.s1 p q hp hpq (by omega)
theorem SortedOn.congr {a b : Nat} {D E : Nat → Nat} (h : SortedOn cf og a b D) (he : ∀ i, a ≤ i → i < b → E i = D i) : SortedOn cf og a b E := fun p q hp hpq hq => by
  rw [he p hp (by omega), he q (by omega) hq]; exact h p q hp hpq hq
/-- Both halves sorted, and each of the one ahead of each of the other: all is sorted. -/
theorem sorted_join {a mid b : Nat} {D E F : Nat → Nat} (h0 : ∀ p q, a ≤ p → p < mid → mid ≤ q → q < b → less cf og (D p) (D q)) (hE : PermOn a mid D E) (sE : SortedOn cf og a mid E) (hF : PermOn mid b E F) (sF : SortedOn cf og mid b F) : SortedOn cf og a b F := by
  intro p q hp hpq hq
  by_cases h1 : q < mid
  · rw [hF.out p (by omega), hF.out q (by omega)]; exact sE p q hp hpq h1
  · by_cases h2 : mid ≤ p
    · exact sF p q h2 hpq hq
    · obtain ⟨j, j1, j2, e⟩ := hF.mem (i := q) (by omega) hq
      rw [e, hE.out j (by omega), hF.out p (by omega)]
      obtain ⟨k, k1, k2, e'⟩ := hE.mem (i := p) hp (by omega)
      rw [e']
      exact h0 k j k1 k2 j1 j2
/-- Behind the search: where it ended is a cut. -/
theorem cut_of_search {a m b mid start s0 r0 : Nat} {D : Nat → Nat} (ha : a < m) (hm : m < b) (hmid : mid = (a + b) / 2) (h0 : (mid < m ∧ s0 = mid + m - b ∧ r0 = mid) ∨ (m ≤ mid ∧ s0 = a ∧ r0 = m)) (h1 : s0 ≤ start) (h2 : start ≤ r0)
    (hl : s0 < start → less cf og (D (start - 1)) (D (mid + m - start))) (hr : start < r0 → less cf og (D (mid + m - start - 1)) (D start)) : Cut cf og a m b mid start D := by
  refine ⟨by omega, by omega, by omega, by omega, fun x y => hl (by omega), fun x y => hr (by omega)⟩
end
end Go.Proofs.Ythcgiacjmfmamaa.PA

namespace Go.Proofs.Ythcgiacjmfmamaa.PA
set_option linter.unusedVariables false
set_option linter.unusedSimpArgs false
open Go.RowKit Go.Proofs.YthcgiacjmfmamaaW.PrintWords
set_option maxRecDepth 100000 in
set_option maxHeartbeats 1600000 in
theorem sym_x_a (w : World) (blk N cap : Nat) (og : Nat → TB) (D0 : Nat → Nat) (a m b : Nat) (g : FuncId) (lb : Array Value) (cf : TB → TB → Int) (L : CmpLaw cf) (eg : ∀ args w, (callFunc g args).run Try.prog w = .ok (.enter g args) w)
    (hc : CmpOK g lb blk w cf) (h : Arr w blk N (fun i => og (D0 i))) (ham : a < m) (hma : m ≤ a + 1) (ha : m < b) (hb : b ≤ N) (hN : N < 1000000) (hs : Sym cf og a m b D0) :
    Calls Try.prog 78 #[.slice (some ⟨blk, 0, none⟩) N cap, .int .i64 a, .int .i64 m, .int .i64 b, .func (.func g) #[] lb] w fun e w' => e = .returned (.tuple #[]) ∧ w.grownBy w' (some blk) ∧ ∃ D, Arr w' blk N (fun i => og (D i)) ∧ PermOn a b D0 D ∧ SortedOn cf og a b D := by
  have hone : ((m : Int) - (a : Int) == 1) = true := by rw [beq_iff_eq]; omega
  have htg : ∀ p, m ≤ p → p < b → D0 a < D0 p := fun p hp hpb => hs.tg a p (Nat.le_refl _) ham hp hpb
  have HT := Aside0.mk htg
  have HS := Aside0.mk hs
  clear hs htg
  go_enter Try.func78, Try.ntmps78
  go_wp2
  go_loopg [10, 11] (b - m) (fun gq v10 v11 wr => ∃ (i j : Nat), v10 = .int .i64 i ∧ v11 = .int .i64 j ∧ gq = j - i ∧ m ≤ i ∧ i ≤ j ∧ j ≤ b ∧ w.grownBy wr (some blk) ∧ Arr wr blk N (fun i => og (D0 i)) ∧
    Aside0 (∀ p, m ≤ p → p < i → less cf og (D0 p) (D0 a)) ∧ Aside0 (∀ p, j ≤ p → p < b → less cf og (D0 a) (D0 p)))
  case atStart => exact ⟨m, b, rfl, rfl, rfl, Nat.le_refl _, by omega, Nat.le_refl _, grownBy_refl _ _, h, ⟨fun p _ _ => by omega⟩, ⟨fun p _ _ => by omega⟩⟩
  case round =>
    obtain ⟨i, j, rfl, rfl, hgq, hai, hij, hjb, hg, hA, h1, h2⟩ := hrel
    by_cases hlt : i < j
    · have k1 : (i : Int) < (j : Int) := by omega
      have z0 : (0 : Int) ≤ ((i : Int) + (j : Int)) / 2 := by omega
      have z1 : ((i : Int) + (j : Int)) / 2 < (N : Int) := by omega
      have y0 : (0 : Int) ≤ (a : Int) := by omega
      have y1 : (a : Int) < (N : Int) := by omega
      obtain ⟨p0, p1, p2, p3, p4, p5, p6, p7, p8, p9, p10⟩ := hA.cells (i := (i + j) / 2) (by omega)
      obtain ⟨q0, q1, q2, q3, q4, q5, q6, q7, q8, q9, q10⟩ := hA.cells (i := a) (by omega)
      have t1 : (((i : Int) + (j : Int)) / 2).toNat = (i + j) / 2 := by omega
      go_wp2
      go_still_tail 9, (by kernel_rfl)
      change wpList _ _ _ _ _ (World.drew _)
      clear p0 p1 p2 p3 p4 p5 p6 p7 p8 p9 p10 q0 q1 q2 q3 q4 q5 q6 q7 q8 q9 q10
      have hcc := hc wr.drew (og (D0 ((i + j) / 2))) (og (D0 a)) (grownBy_drew hg)
      by_cases hcmp : cf (og (D0 ((i + j) / 2))) (og (D0 a)) < 0
      · go_wp2_with ((with_reducible refine hcc.mono ?_); rintro e W' ⟨rfl, hbW⟩)
        have hg' := grownBy_below (grownBy_drew hg) hbW
        have hA' := (Arr.drew hA).kept (hbW.block blk hA.lt)
        go_roundg (j - ((i + j) / 2 + 1))
        case measure => omega
        case rel =>
          refine ⟨(i + j) / 2 + 1, j, by go_num, rfl, rfl, by omega, by omega, hjb, hg', hA', ⟨fun p hp hpi => ?_⟩, h2⟩
          by_cases e : p = (i + j) / 2
          · rw [e]; exact .inl hcmp
          · exact less_trans L (HS.out.s2 p ((i + j) / 2) hp (by omega) (by omega)) (.inl hcmp)
      · go_wp2_with ((with_reducible refine hcc.mono ?_); rintro e W' ⟨rfl, hbW⟩)
        have hg' := grownBy_below (grownBy_drew hg) hbW
        have hA' := (Arr.drew hA).kept (hbW.block blk hA.lt)
        go_roundg ((i + j) / 2 - i)
        case measure => omega
        case rel =>
          refine ⟨i, (i + j) / 2, rfl, by go_num, rfl, hai, by omega, by omega, hg', hA', h1, ⟨fun p hp hpb => ?_⟩⟩
          have h3 : less cf og (D0 a) (D0 ((i + j) / 2)) := less_of_test L (HT.out _ (by omega) (by omega)) (by omega)
          by_cases e : p = (i + j) / 2
          · rw [e]; exact h3
          · exact less_trans L h3 (HS.out.s2 ((i + j) / 2) p (by omega) (by omega) hpb)
    · have k1 : ¬ (i : Int) < (j : Int) := by omega
      have hje : i = j := by omega
      have Hje := Aside0.mk hje
      clear hje
      go_wp2
      go_loopg [13] (i - 1 - a) (fun gq v13 wk => ∃ k : Nat, v13 = .int .i64 k ∧ gq = i - 1 - k ∧ a ≤ k ∧ k + 1 ≤ i ∧ w.grownBy wk (some blk) ∧ Arr wk blk N (fun x => og (rot D0 a (a + 1) (k + 1) x)))
      case atStart => exact ⟨a, rfl, rfl, Nat.le_refl _, by omega, hg, hA.congr (fun x _ => by rw [rot_id])⟩
      case round =>
        clear hg hA
        obtain ⟨k, rfl, hgk, hak, hki, hg, hA⟩ := hrel
        by_cases hlt2 : k + 1 < i
        · have g1 : (k : Int) < (i : Int) - 1 := by omega
          obtain ⟨p0, p1, p2, p3, p4, p5, p6, p7, p8, p9, p10⟩ := hA.cells (i := k) (by omega)
          obtain ⟨q0, q1, q2, q3, q4, q5, q6, q7, q8, q9, q10⟩ := hA.cells (i := k + 1) (by omega)
          have hfz := hA.frozen
          have i0 : (0 : Int) ≤ (k : Int) := by omega
          have i1 : (k : Int) < (N : Int) := by omega
          have j0 : (0 : Int) ≤ (k : Int) + 1 := by omega
          have j1 : (k : Int) + 1 < (N : Int) := by omega
          go_wp2
          go_region
          go_wp2
          have hs := Arr.drew (hA.swap (i := k) (j := k + 1) (by omega) (by omega))
          have hg2 := grownBy_drew (grownBy_trans hg (swap_grown wr blk k (k + 1) (og (rot D0 a (a + 1) (k + 1) (k + 1))) (og (rot D0 a (a + 1) (k + 1) k))))
          unfold put11 at hs hg2
          go_roundg (i - 1 - (k + 1))
          case measure => omega
          case rel =>
            refine ⟨k + 1, by go_num, rfl, by omega, by omega, hg2, hs.congr (fun x _ => ?_)⟩
            rw [← rot_up D0 a k x hak, swp_at, swp_at]
            by_cases e1 : x = k + 1
            · rw [if_pos e1, if_pos e1]
            · rw [if_neg e1, if_neg e1]
              by_cases e2 : x = k
              · rw [if_pos e2, if_pos e2]
              · rw [if_neg e2, if_neg e2]
        · have g1 : ¬ (k : Int) < (i : Int) - 1 := by omega
          go_wp2
          refine bodyPost_ret (results_none rfl _ _ _) rfl ?_
          have hme : m = a + 1 := by omega
          have hki' : k + 1 = i := by omega
          rw [hki'] at hA
          have hS := HS.out
          rw [hme] at hS
          exact ⟨rfl, hg, _, hA, (PermOn.rot D0 (show a ≤ a + 1 by omega) (show a + 1 ≤ i by omega)).mono (Nat.le_refl _) (by omega), sym_a L hS (by omega) (by omega) (fun p hp hpi => h1.out p (by omega) hpi) (fun p hp hpb => h2.out p (by rw [← Hje.out]; exact hp) hpb)⟩
set_option maxRecDepth 100000 in
set_option maxHeartbeats 1600000 in
theorem sym_x_b (w : World) (blk N cap : Nat) (og : Nat → TB) (D0 : Nat → Nat) (a m b : Nat) (g : FuncId) (lb : Array Value) (cf : TB → TB → Int) (L : CmpLaw cf) (eg : ∀ args w, (callFunc g args).run Try.prog w = .ok (.enter g args) w)
    (hc : CmpOK g lb blk w cf) (h : Arr w blk N (fun i => og (D0 i))) (ham : a + 1 < m) (hmb : m < b) (hbm : b ≤ m + 1) (hb : b ≤ N) (hN : N < 1000000) (hs : Sym cf og a m b D0) :
    Calls Try.prog 78 #[.slice (some ⟨blk, 0, none⟩) N cap, .int .i64 a, .int .i64 m, .int .i64 b, .func (.func g) #[] lb] w fun e w' => e = .returned (.tuple #[]) ∧ w.grownBy w' (some blk) ∧ ∃ D, Arr w' blk N (fun i => og (D i)) ∧ PermOn a b D0 D ∧ SortedOn cf og a b D := by
  have hone : ((m : Int) - (a : Int) == 1) = false := by rw [beq_eq_false_iff_ne]; omega
  have htwo : ((b : Int) - (m : Int) == 1) = true := by rw [beq_iff_eq]; omega
  have htg : ∀ p, a ≤ p → p < m → D0 p < D0 m := fun p hp hpm => hs.tg p m hp hpm (Nat.le_refl _) hmb
  have HT := Aside0.mk htg
  have HS := Aside0.mk hs
  clear hs htg
  go_enter Try.func78, Try.ntmps78
  go_wp2
  go_loopg [14, 15] (m - a) (fun gq v10 v11 wr => ∃ (i j : Nat), v10 = .int .i64 i ∧ v11 = .int .i64 j ∧ gq = j - i ∧ a ≤ i ∧ i ≤ j ∧ j ≤ m ∧ w.grownBy wr (some blk) ∧ Arr wr blk N (fun i => og (D0 i)) ∧
    Aside0 (∀ p, a ≤ p → p < i → less cf og (D0 p) (D0 m)) ∧ Aside0 (∀ p, j ≤ p → p < m → less cf og (D0 m) (D0 p)))
  case atStart => exact ⟨a, m, rfl, rfl, rfl, Nat.le_refl _, by omega, Nat.le_refl _, grownBy_refl _ _, h, ⟨fun p _ _ => by omega⟩, ⟨fun p _ _ => by omega⟩⟩
  case round =>
    obtain ⟨i, j, rfl, rfl, hgq, hai, hij, hjb, hg, hA, h1, h2⟩ := hrel
    by_cases hlt : i < j
    · have k1 : (i : Int) < (j : Int) := by omega
      have z0 : (0 : Int) ≤ ((i : Int) + (j : Int)) / 2 := by omega
      have z1 : ((i : Int) + (j : Int)) / 2 < (N : Int) := by omega
      have y0 : (0 : Int) ≤ (m : Int) := by omega
      have y1 : (m : Int) < (N : Int) := by omega
      obtain ⟨p0, p1, p2, p3, p4, p5, p6, p7, p8, p9, p10⟩ := hA.cells (i := (i + j) / 2) (by omega)
      obtain ⟨q0, q1, q2, q3, q4, q5, q6, q7, q8, q9, q10⟩ := hA.cells (i := m) (by omega)
      have t1 : (((i : Int) + (j : Int)) / 2).toNat = (i + j) / 2 := by omega
      go_wp2
      go_still_tail 9, (by kernel_rfl)
      change wpList _ _ _ _ _ (World.drew _)
      clear p0 p1 p2 p3 p4 p5 p6 p7 p8 p9 p10 q0 q1 q2 q3 q4 q5 q6 q7 q8 q9 q10
      have hcc := hc wr.drew (og (D0 m)) (og (D0 ((i + j) / 2))) (grownBy_drew hg)
      by_cases hcmp : cf (og (D0 m)) (og (D0 ((i + j) / 2))) < 0
      · have hnt : (!decide (cf (og (D0 m)) (og (D0 ((i + j) / 2))) < 0)) = false := by simp [hcmp]
        go_wp2_with ((with_reducible refine hcc.mono ?_); rintro e W' ⟨rfl, hbW⟩)
        have hg' := grownBy_below (grownBy_drew hg) hbW
        have hA' := (Arr.drew hA).kept (hbW.block blk hA.lt)
        go_roundg ((i + j) / 2 - i)
        case measure => omega
        case rel =>
          refine ⟨i, (i + j) / 2, rfl, by go_num, rfl, hai, by omega, by omega, hg', hA', h1, ⟨fun p hp hpb => ?_⟩⟩
          by_cases e : p = (i + j) / 2
          · rw [e]; exact .inl hcmp
          · exact less_trans L (.inl hcmp) (HS.out.s1 ((i + j) / 2) p (by omega) (by omega) hpb)
      · have hnt : (!decide (cf (og (D0 m)) (og (D0 ((i + j) / 2))) < 0)) = true := by simp; omega
        go_wp2_with ((with_reducible refine hcc.mono ?_); rintro e W' ⟨rfl, hbW⟩)
        have hg' := grownBy_below (grownBy_drew hg) hbW
        have hA' := (Arr.drew hA).kept (hbW.block blk hA.lt)
        go_roundg (j - ((i + j) / 2 + 1))
        case measure => omega
        case rel =>
          refine ⟨(i + j) / 2 + 1, j, by go_num, rfl, rfl, by omega, by omega, hjb, hg', hA', ⟨fun p hp hpi => ?_⟩, h2⟩
          have h3 : less cf og (D0 ((i + j) / 2)) (D0 m) := less_of_test L (HT.out _ (by omega) (by omega)) (by omega)
          by_cases e : p = (i + j) / 2
          · rw [e]; exact h3
          · exact less_trans L (HS.out.s1 p ((i + j) / 2) hp (by omega) (by omega)) h3
    · have k1 : ¬ (i : Int) < (j : Int) := by omega
      have hje : i = j := by omega
      have Hje := Aside0.mk hje
      clear hje
      go_wp2
      go_loopg [17] (m - i) (fun gq v13 wk => ∃ k : Nat, v13 = .int .i64 k ∧ gq = k - i ∧ i ≤ k ∧ k ≤ m ∧ w.grownBy wk (some blk) ∧ Arr wk blk N (fun x => og (rot D0 k m (m + 1) x)))
      case atStart => exact ⟨m, rfl, rfl, by omega, Nat.le_refl _, hg, hA.congr (fun x _ => by rw [rot_id'])⟩
      case round =>
        clear hg hA
        obtain ⟨k, rfl, hgk, hak, hki, hg, hA⟩ := hrel
        by_cases hlt2 : i < k
        · have g1 : (i : Int) < (k : Int) := by omega
          obtain ⟨p0, p1, p2, p3, p4, p5, p6, p7, p8, p9, p10⟩ := hA.cells (i := k) (by omega)
          obtain ⟨q0, q1, q2, q3, q4, q5, q6, q7, q8, q9, q10⟩ := hA.cells (i := k - 1) (by omega)
          have hfz := hA.frozen
          have i0 : (0 : Int) ≤ (k : Int) := by omega
          have i1 : (k : Int) < (N : Int) := by omega
          have j0 : (0 : Int) ≤ (k : Int) - 1 := by omega
          have j1 : (k : Int) - 1 < (N : Int) := by omega
          have s1 : IntKind.i64.wrap ((k : Int) - 1) = (k : Int) - 1 := IntWalk.i64_in _ (by omega)
          have s2 : ((k : Int) - 1).toNat = k - 1 := by omega
          have s3 : (1 : Int) ≤ (k : Int) := by omega
          go_wp2
          go_region
          go_wp2
          have hs := Arr.drew (hA.swap (i := k) (j := k - 1) (by omega) (by omega))
          have hg2 := grownBy_drew (grownBy_trans hg (swap_grown wr blk k (k - 1) (og (rot D0 k m (m + 1) (k - 1))) (og (rot D0 k m (m + 1) k))))
          unfold put11 at hs hg2
          go_roundg (k - 1 - i)
          case measure => omega
          case rel =>
            obtain ⟨k', rfl⟩ : ∃ k', k = k' + 1 := ⟨k - 1, by omega⟩
            refine ⟨k', by go_num, rfl, by omega, by omega, hg2, hs.congr (fun x _ => ?_)⟩
            rw [← rot_dn D0 m k' x hki, swp_at, swp_at]
            simp only [Nat.add_sub_cancel]
            by_cases e1 : x = k'
            · rw [if_pos e1, if_pos e1]
            · rw [if_neg e1, if_neg e1]
              by_cases e2 : x = k' + 1
              · rw [if_pos e2, if_pos e2]
              · rw [if_neg e2, if_neg e2]
        · have g1 : ¬ (i : Int) < (k : Int) := by omega
          go_wp2
          refine bodyPost_ret (results_none rfl _ _ _) rfl ?_
          have hbe : b = m + 1 := by omega
          have hki' : k = i := by omega
          rw [hki'] at hA
          have hS := HS.out
          rw [hbe] at hS
          rw [hbe]
          exact ⟨rfl, hg, _, hA, (PermOn.rot D0 (show i ≤ m by omega) (show m ≤ m + 1 by omega)).mono hai (Nat.le_refl _), sym_b L hS hai (by omega) h1.out (fun p hp hpm => h2.out p (by rw [← Hje.out]; exact hp) hpm)⟩
end Go.Proofs.Ythcgiacjmfmamaa.PA
