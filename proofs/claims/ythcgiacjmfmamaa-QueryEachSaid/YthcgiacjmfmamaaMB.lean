/-
  A store as the lists of its entities: parts.Check, Put, All.
-/
import Derived.Test.YthcgiacjmfmamaaMA
import Derived.Test.YthcgiacjmfmamaaV11
import Derived.RangeFuncNested
import Derived.RangeFuncBound
import Derived.RangeFuncCalls
import Derived.RangeFuncLeaves
import Derived.Shelf.Abstract
import Derived.Shelf.RegionOpen
import Derived.WalkKit
import Derived.OwnWalkIn
import Derived.TacticsInMore
import Derived.LoopNIn
import Derived.LoopIn
namespace Go.Proofs.Ythcgiacjmfmamaa.PA
set_option linter.unusedVariables false
set_option linter.unusedSimpArgs false
open Go.RowKit Go.Proofs.YthcgiacjmfmamaaW.PrintWords Go.Proofs.YthcgiacjmfmamaaW.PrintLast Go.Proofs.YthcgiacjmfmamaaW.PrintMore
theorem within_f (a : Bool) (n lo hi : Int) : parts_within.f a n lo hi = some (if a = true then (decide (n ≥ lo) && decide (n ≤ hi)) else n == 0) := by
  unfold parts_within.f
  by_cases h : a = true
  · rw [if_pos h, if_pos h]
    by_cases h2 : n ≥ lo
    · rw [if_pos h2]; simp [h2]
    · rw [if_neg h2]; simp [h2]
  · rw [if_neg h, if_neg h]
theorem right_l0 (L : List (S112)) (hL : L.length < 1000) : ∀ d i F : Nat, i + d = L.length → d < F → ∃ b, parts_right.l0 F L (L.length : Int) (i : Int) = some b ∧ (b = true → ∀ j : Nat, i ≤ j → j < L.length → parts_within.f (rd_T112 L (j : Int)).f0 (rd_T112 L (j : Int)).f1 (rd_T112 L (j : Int)).f2 (rd_T112 L (j : Int)).f3 = some true) := by
  intro d
  induction d with
  | zero =>
    intro i F hi hF
    obtain ⟨F, rfl⟩ : ∃ G, F = G + 1 := ⟨F - 1, by omega⟩
    refine ⟨true, ?_, fun _ j h1 h2 => by omega⟩
    rw [parts_right.l0, if_neg (by omega)]
  | succ d ih =>
    intro i F hi hF
    obtain ⟨F, rfl⟩ : ∃ G, F = G + 1 := ⟨F - 1, by omega⟩
    rw [parts_right.l0, if_pos (by omega), if_pos (by omega), if_pos (by omega)]
    have hw := within_f (rd_T112 L (i : Int)).f0 (rd_T112 L (i : Int)).f1 (rd_T112 L (i : Int)).f2 (rd_T112 L (i : Int)).f3
    rw [hw]
    generalize (if (rd_T112 L (i : Int)).f0 = true then (decide ((rd_T112 L (i : Int)).f1 ≥ (rd_T112 L (i : Int)).f2) && decide ((rd_T112 L (i : Int)).f1 ≤ (rd_T112 L (i : Int)).f3)) else (rd_T112 L (i : Int)).f1 == 0) = t at hw ⊢
    cases t with
    | false => exact ⟨false, by simp only [Option.bind_some, Bool.false_eq_true, if_false], fun h => by cases h⟩
    | true =>
      obtain ⟨b, h1, h2⟩ := ih (i + 1) F (by omega) (by omega)
      refine ⟨b, ?_, fun hb j hj1 hj2 => ?_⟩
      · rw [Option.bind_some, if_pos rfl, IntWalk.wrap64_in _ (by omega), show (i : Int) + 1 = ((i + 1 : Nat) : Int) by omega]
        exact h1
      · by_cases e : j = i
        · rw [e]; exact hw
        · exact h2 hb j (by omega) hj2
/-- What parts.Check leaves of an entity. -/
def OkB (x : TB) : Prop := (0 ≤ x.f1 ∧ x.f1 ≤ 31) ∧ (0 ≤ x.f0.f0 ∧ x.f0.f0 ≤ 15) ∧ (0 ≤ x.f0.f1 ∧ x.f0.f1 ≤ 15) ∧ (0 ≤ x.f0.f2 ∧ x.f0.f2 ≤ 1048575) ∧ (-1073741824 ≤ x.f2 ∧ x.f2 ≤ 1073741824) ∧ (-1073741824 ≤ x.f3 ∧ x.f3 ≤ 1073741824)
def chk (x : TB) : Int := (parts_Check.f 20 x.f0.f0 x.f0.f1 x.f0.f2 x.f1 x.f2 x.f3 x.f4 x.f5 x.f6 x.f7 x.f8).getD 1
def rlist (x : TB) : List S112 :=
  [⟨bits BinOp.and IntKind.i64 x.f1 1 == 1, x.f2, -1073741824, 1073741824⟩, ⟨bits BinOp.and IntKind.i64 x.f1 1 == 1, x.f3, -1073741824, 1073741824⟩,
   ⟨bits BinOp.and IntKind.i64 x.f1 2 == 2, x.f4, -1073741824, 1073741824⟩, ⟨bits BinOp.and IntKind.i64 x.f1 2 == 2, x.f5, -1073741824, 1073741824⟩,
   ⟨bits BinOp.and IntKind.i64 x.f1 4 == 4, x.f6, 1, 1048576⟩, ⟨bits BinOp.and IntKind.i64 x.f1 8 == 8, x.f7, 0, 1024⟩, ⟨bits BinOp.and IntKind.i64 x.f1 16 == 16, x.f8, 1, 1048576⟩]
theorem check_f (x : TB) : parts_Check.f 20 x.f0.f0 x.f0.f1 x.f0.f2 x.f1 x.f2 x.f3 x.f4 x.f5 x.f6 x.f7 x.f8 = some (chk x) ∧ (chk x = 0 → OkB x) := by
  have key : ∃ r, parts_Check.f 20 x.f0.f0 x.f0.f1 x.f0.f2 x.f1 x.f2 x.f3 x.f4 x.f5 x.f6 x.f7 x.f8 = some r ∧ (r = 0 → OkB x) := by
    unfold parts_Check.f parts_right.f parts_Has.f parts_CheckID.f
    by_cases h1 : x.f1 < 0
    · rw [if_pos h1, parts_right.j0, if_pos rfl, Option.bind_some, if_neg (by simp)]
      exact ⟨1, rfl, fun h => by cases h⟩
    rw [if_neg h1]
    by_cases h2 : x.f1 > 31
    · rw [decide_eq_true h2, parts_right.j0, if_pos rfl, Option.bind_some, if_neg (by simp)]
      exact ⟨1, rfl, fun h => by cases h⟩
    rw [decide_eq_false h2, parts_right.j0, if_neg (by simp)]
    unfold parts_Has.f
    rw [Option.bind_some, Option.bind_some, Option.bind_some, Option.bind_some, Option.bind_some, Option.bind_some]
    rw [show ∀ (a1 a2 a3 a4 a5 : Bool), a1 = (bits BinOp.and IntKind.i64 x.f1 1 == 1) → a2 = (bits BinOp.and IntKind.i64 x.f1 2 == 2) → a3 = (bits BinOp.and IntKind.i64 x.f1 4 == 4) → a4 = (bits BinOp.and IntKind.i64 x.f1 8 == 8) → a5 = (bits BinOp.and IntKind.i64 x.f1 16 == 16) →
      [(⟨a1, x.f2, -1073741824, 1073741824⟩ : S112), ⟨a1, x.f3, -1073741824, 1073741824⟩, ⟨a2, x.f4, -1073741824, 1073741824⟩, ⟨a2, x.f5, -1073741824, 1073741824⟩, ⟨a3, x.f6, 1, 1048576⟩, ⟨a4, x.f7, 0, 1024⟩, ⟨a5, x.f8, 1, 1048576⟩] = rlist x from fun a1 a2 a3 a4 a5 h1 h2 h3 h4 h5 => by rw [h1, h2, h3, h4, h5]; rfl]
    rotate_left
    all_goals first | rfl | skip
    obtain ⟨bR, e1, e2⟩ := right_l0 (rlist x) (by unfold rlist; simp) 7 0 19 rfl (by omega)
    rw [show ∀ K : Bool → Option Int, (parts_right.l0 19 (rlist x) ((rlist x).length : Int) 0).bind K = K bR from fun K => by rw [show (0 : Int) = ((0 : Nat) : Int) from rfl, e1, Option.bind_some]]
    cases bR with
    | false => exact ⟨1, by rw [if_neg (by simp)], fun h => by cases h⟩
    | true =>
      rw [if_pos rfl, Option.bind_some]
      by_cases hp : (bits BinOp.and IntKind.i64 x.f1 1 == 1) = true
      · rw [if_pos hp, within_f, within_f, within_f, if_pos rfl, if_pos rfl, if_pos rfl, Option.bind_some, Option.bind_some, Option.bind_some]
        have w0 := e2 rfl 0 (by omega) (by show 0 < 7; omega)
        have w1 := e2 rfl 1 (by omega) (by show 1 < 7; omega)
        rw [within_f] at w0 w1
        have w0' := Option.some.inj w0
        have w1' := Option.some.inj w1
        replace w0' : (if (bits BinOp.and IntKind.i64 x.f1 1 == 1) = true then (decide (x.f2 ≥ -1073741824) && decide (x.f2 ≤ 1073741824)) else x.f2 == 0) = true := w0'
        replace w1' : (if (bits BinOp.and IntKind.i64 x.f1 1 == 1) = true then (decide (x.f3 ≥ -1073741824) && decide (x.f3 ≤ 1073741824)) else x.f3 == 0) = true := w1'
        rw [if_pos hp] at w0' w1'
        simp only [Bool.and_eq_true, decide_eq_true_eq] at w0' w1'
        by_cases g0 : (decide (x.f0.f0 ≥ 0) && decide (x.f0.f0 ≤ 15)) = true
        · rw [if_pos g0]
          by_cases g1 : (decide (x.f0.f1 ≥ 0) && decide (x.f0.f1 ≤ 15)) = true
          · rw [if_pos g1]
            by_cases g2 : (decide (x.f0.f2 ≥ 0) && decide (x.f0.f2 ≤ 1048575)) = true
            · rw [if_pos g2, Option.bind_some]
              simp only [Bool.and_eq_true, decide_eq_true_eq] at g0 g1 g2
              exact ⟨0, rfl, fun _ => ⟨by omega, by omega, by omega, by omega, by omega, by omega⟩⟩
            · rw [if_neg g2, Option.bind_some]
              exact ⟨1, rfl, fun h => by cases h⟩
          · rw [if_neg g1, Option.bind_some]
            exact ⟨1, rfl, fun h => by cases h⟩
        · rw [if_neg g0, Option.bind_some]
          exact ⟨1, rfl, fun h => by cases h⟩
      · rw [if_neg hp]
        exact ⟨1, rfl, fun h => by cases h⟩
  obtain ⟨r, h1, h2⟩ := key
  have : chk x = r := by unfold chk; rw [h1]; rfl
  rw [this]
  exact ⟨h1, h2⟩
end Go.Proofs.Ythcgiacjmfmamaa.PA

namespace Go.Proofs.Ythcgiacjmfmamaa.PA
set_option linter.unusedVariables false
set_option linter.unusedSimpArgs false
open Go.RowKit Go.Proofs.YthcgiacjmfmamaaW.PrintWords
theorem Rep.congr {w : World} {base b mb : Nat} {sv : Nat → Value} {I I' : Nat → List TID} {C C' : Nat → List Int} {f : TID → Option (Int × Int)} {n : Nat} {ow : Nat → Nat} (h : Rep w base b mb sv I C f n ow)
    (hI : ∀ m, m < 32 → I' m = I m) (hC : ∀ o, o < 256 → o % 8 ≠ 0 → C' o = C o) : Rep w base b mb sv I' C' f n ow :=
  ⟨h.blk, h.bb, h.bm, fun m hm => by rw [hI m hm]; exact h.ids m hm, fun o ho h8 => by rw [hC o ho h8]; exact h.cols o ho h8, h.own, h.owb, h.owm, h.map⟩
def idsOf (T : Nat → List TB) : Nat → List TID := fun m => (T m).map (·.f0)
def colsOf (T : Nat → List TB) : Nat → List Int := fun o => if o < 256 then (T (o / 8)).map fun x => numB x (o % 8 - 1) else []
/-- All entities, table by table. -/
def toL (T : Nat → List TB) : List TB := (List.range 32).flatMap T
/-- f tells where each entity stands. -/
structure LocT (T : Nat → List TB) (f : TID → Option (Int × Int)) : Prop where
  here : ∀ (m r : Nat) (x : TB), m < 32 → (T m)[r]? = some x → f x.f0 = some ((m : Int), (r : Int))
  there : ∀ (id : TID) (p : Int × Int), f id = some p → ∃ (m r : Nat) (x : TB), m < 32 ∧ (T m)[r]? = some x ∧ x.f0 = id ∧ p = ((m : Int), (r : Int))
/-- Block b is a store that holds T's entities. -/
structure Sto (w : World) (base b : Nat) (T : Nat → List TB) : Prop where
  ex : ∃ mb sv f ow, Rep w base b mb sv (idsOf T) (colsOf T) f (toL T).length ow ∧ LocT T f
  ok : ∀ m x, m < 32 → x ∈ T m → x.f1 = (m : Int) ∧ OkB x
theorem Sto.below {w w' : World} {base b : Nat} {T : Nat → List TB} (h : Sto w base b T) (hb : Below w.heap.size w w') : Sto w' base b T := by
  obtain ⟨⟨mb, sv, f, ow, hr, hl⟩, hk⟩ := h
  exact ⟨⟨mb, sv, f, ow, hr.below hb, hl⟩, hk⟩
theorem mem_toL {T : Nat → List TB} {x : TB} : x ∈ toL T ↔ ∃ m, m < 32 ∧ x ∈ T m := by
  unfold toL
  rw [List.mem_flatMap]
  exact ⟨fun ⟨m, h1, h2⟩ => ⟨m, List.mem_range.1 h1, h2⟩, fun ⟨m, h1, h2⟩ => ⟨m, List.mem_range.2 h1, h2⟩⟩
theorem Sto.mem {w : World} {base b : Nat} {T : Nat → List TB} (h : Sto w base b T) {x : TB} (hx : x ∈ toL T) : OkB x ∧ x ∈ T x.f1.toNat ∧ x.f1.toNat < 32 := by
  obtain ⟨m, h1, h2⟩ := mem_toL.1 hx
  obtain ⟨e, ho⟩ := h.ok m x h1 h2
  rw [e, Int.toNat_natCast]
  exact ⟨ho, h2, h1⟩
theorem OkB.wf {x : TB} (h : OkB x) : wfID x.f0 := by
  obtain ⟨_, a, b, c, _⟩ := h
  have key : ∀ n : Int, 0 ≤ n → n ≤ 1048575 → (Lit.int .i64 n).wf = true := fun n h1 h2 => by
    have := wrap64_wf n
    rw [IntWalk.wrap64_in _ (by omega)] at this
    exact this
  exact ⟨key _ a.1 (by omega), key _ b.1 (by omega), key _ c.1 c.2⟩
theorem flatMap_len (T : Nat → List TB) (m : Nat) : ∀ R : List Nat, m ∈ R → (T m).length ≤ (R.flatMap T).length
  | [], h => by cases h
  | a :: R, h => by
    rw [List.flatMap_cons, List.length_append]
    rcases List.mem_cons.1 h with e | e
    · rw [e]; omega
    · have := flatMap_len T m R e; omega
theorem len_le {T : Nat → List TB} {m : Nat} (hm : m < 32) : (T m).length ≤ (toL T).length := flatMap_len T m _ (List.mem_range.2 hm)
theorem idsOf_len (T : Nat → List TB) (m : Nat) : (idsOf T m).length = (T m).length := by simp [idsOf]
theorem colsOf_len (T : Nat → List TB) (o : Nat) (ho : o < 256) : (colsOf T o).length = (T (o / 8)).length := by simp [colsOf, ho]
theorem colsOf_le (T : Nat → List TB) (o : Nat) : (colsOf T o).length ≤ (toL T).length := by
  by_cases ho : o < 256
  · rw [colsOf_len T o ho]; exact len_le (by omega)
  · simp [colsOf, ho]
def addT (T : Nat → List TB) (x : TB) : Nat → List TB := upd T x.f1.toNat (T x.f1.toNat ++ [x])
theorem flatMap_add (T : Nat → List TB) (m : Nat) (x : TB) : ∀ R : List Nat, R.Nodup → (m ∉ R → R.flatMap (upd T m (T m ++ [x])) = R.flatMap T) ∧ (m ∈ R → (R.flatMap (upd T m (T m ++ [x]))).Perm (x :: R.flatMap T)) := by
  intro R
  induction R with
  | nil => intro _; exact ⟨fun _ => rfl, fun h => by cases h⟩
  | cons a R ih =>
    intro hn
    obtain ⟨h1, h2⟩ := List.nodup_cons.1 hn
    obtain ⟨i1, i2⟩ := ih h2
    constructor
    · intro h
      rw [List.flatMap_cons, List.flatMap_cons, upd_other _ (fun e => h (by rw [e]; exact List.mem_cons_self)), i1 (fun e => h (List.mem_cons_of_mem _ e))]
    · intro h
      rw [List.flatMap_cons, List.flatMap_cons]
      by_cases e : a = m
      · rw [e, upd_same, i1 (e ▸ h1), List.append_assoc]
        exact List.perm_middle
      · rw [upd_other _ e]
        have hm : m ∈ R := by rcases List.mem_cons.1 h with h | h; exact absurd h.symm e; exact h
        exact ((i2 hm).append_left (T a)).trans List.perm_middle
theorem toL_add (T : Nat → List TB) (x : TB) (h : x.f1.toNat < 32) : (toL (addT T x)).Perm (x :: toL T) := (flatMap_add T x.f1.toNat x (List.range 32) List.nodup_range).2 (List.mem_range.2 h)
theorem idsOf_add (T : Nat → List TB) (x : TB) : idsOf (addT T x) = upd (idsOf T) x.f1.toNat (idsOf T x.f1.toNat ++ [x.f0]) := by
  funext m
  unfold idsOf addT upd
  by_cases e : m = x.f1.toNat
  · rw [if_pos e, if_pos e, List.map_append]; rfl
  · rw [if_neg e, if_neg e]
theorem colsOf_add (T : Nat → List TB) (x : TB) (o : Nat) (ho : o < 256) (h8 : o % 8 ≠ 0) : colsOf (addT T x) o = Cadd (colsOf T) x.f1.toNat x 7 o := by
  unfold colsOf addT upd Cadd
  dsimp only
  rw [if_pos ho, if_pos ho]
  by_cases e : o / 8 = x.f1.toNat
  · rw [if_pos e, if_pos (by omega), List.map_append, e, show o - (x.f1.toNat * 8 + 1) = o % 8 - 1 by omega]; rfl
  · rw [if_neg e, if_neg (by omega)]
theorem LocT.add {T : Nat → List TB} {f : TID → Option (Int × Int)} (h : LocT T f) (x : TB) (hx : f x.f0 = none) (hm : x.f1.toNat < 32) : LocT (addT T x) (fset f x.f0 (some ((x.f1.toNat : Int), ((T x.f1.toNat).length : Int)))) := by
  have hf : ∀ y : TID, y ≠ x.f0 → fset f x.f0 (some ((x.f1.toNat : Int), ((T x.f1.toNat).length : Int))) y = f y := fun y hy => by
    unfold fset; rw [if_neg (fun e => hy (id_ext e))]
  have hs : fset f x.f0 (some ((x.f1.toNat : Int), ((T x.f1.toNat).length : Int))) x.f0 = some ((x.f1.toNat : Int), ((T x.f1.toNat).length : Int)) := by unfold fset; rw [if_pos ⟨rfl, rfl, rfl⟩]
  have hne : ∀ (m r : Nat) (y : TB), m < 32 → (T m)[r]? = some y → y.f0 ≠ x.f0 := fun m r y h1 h2 e => by
    have := h.here m r y h1 h2
    rw [e, hx] at this; cases this
  constructor
  · intro m r y h1 h2
    unfold addT at h2
    by_cases e : m = x.f1.toNat
    · subst e
      rw [upd_same] at h2
      by_cases hr : r < (T x.f1.toNat).length
      · rw [List.getElem?_append_left hr] at h2
        rw [hf _ (hne _ r y h1 h2)]
        exact h.here _ r y h1 h2
      · rw [List.getElem?_append_right (by omega)] at h2
        have hr2 : r = (T x.f1.toNat).length := by
          have := (List.getElem?_eq_some_iff.1 h2).1
          simp at this; omega
        rw [hr2, Nat.sub_self] at h2
        have hy : x = y := Option.some.inj h2
        rw [← hy, hs, hr2]
    · rw [upd_other _ e] at h2
      rw [hf _ (hne _ r y h1 h2)]
      exact h.here _ r y h1 h2
  · intro id p hp
    by_cases e : id = x.f0
    · subst e
      rw [hs] at hp
      refine ⟨x.f1.toNat, (T x.f1.toNat).length, x, hm, ?_, rfl, (Option.some.inj hp).symm⟩
      unfold addT
      rw [upd_same, List.getElem?_append_right (Nat.le_refl _), Nat.sub_self]; rfl
    · rw [hf id e] at hp
      obtain ⟨m, r, y, h1, h2, h3, h4⟩ := h.there id p hp
      refine ⟨m, r, y, h1, ?_, h3, h4⟩
      unfold addT
      by_cases em : m = x.f1.toNat
      · subst em
        rw [upd_same, List.getElem?_append_left (List.getElem?_eq_some_iff.1 h2).1]; exact h2
      · rw [upd_other _ em]; exact h2
/-- Is there an entity of this name? -/
def inT (T : Nat → List TB) (id : TID) : Prop := ∃ x, x ∈ toL T ∧ x.f0 = id
theorem LocT.isSome {T : Nat → List TB} {f : TID → Option (Int × Int)} (h : LocT T f) (id : TID) : (f id).isSome = true ↔ inT T id := by
  constructor
  · intro hs
    obtain ⟨p, hp⟩ := Option.isSome_iff_exists.1 hs
    obtain ⟨m, r, x, h1, h2, h3, h4⟩ := h.there id p hp
    exact ⟨x, mem_toL.2 ⟨m, h1, List.mem_of_getElem? h2⟩, h3⟩
  · rintro ⟨x, hx, rfl⟩
    obtain ⟨m, h1, h2⟩ := mem_toL.1 hx
    obtain ⟨r, hr⟩ := List.getElem?_of_mem h2
    rw [h.here m r x h1 hr]; rfl
end Go.Proofs.Ythcgiacjmfmamaa.PA

namespace Go.Proofs.Ythcgiacjmfmamaa.PA
set_option linter.unusedVariables false
set_option linter.unusedSimpArgs false
open Go.RowKit Go.Proofs.YthcgiacjmfmamaaW.PrintWords
theorem box11 {w : World} {g t : Nat} {v0 v1 v2 v3 v4 v5 v6 v7 v8 v9 v10 : Value} (h : w.heap[g]? = some (.cells #[v0, v1, v2, v3, v4, v5, v6, v7, v8, v9, v10] t (0, 0))) :
    w.cell? ⟨g, 0, none⟩ = some v0 ∧ w.cell? ⟨g, 1, none⟩ = some v1 ∧ w.cell? ⟨g, 2, none⟩ = some v2 ∧ w.cell? ⟨g, 3, none⟩ = some v3 ∧ w.cell? ⟨g, 4, none⟩ = some v4 ∧ w.cell? ⟨g, 5, none⟩ = some v5 ∧ w.cell? ⟨g, 6, none⟩ = some v6 ∧ w.cell? ⟨g, 7, none⟩ = some v7 ∧ w.cell? ⟨g, 8, none⟩ = some v8 ∧ w.cell? ⟨g, 9, none⟩ = some v9 ∧ w.cell? ⟨g, 10, none⟩ = some v10 :=
  ⟨(blk_cell h 0).trans rfl, (blk_cell h 1).trans rfl, (blk_cell h 2).trans rfl, (blk_cell h 3).trans rfl, (blk_cell h 4).trans rfl, (blk_cell h 5).trans rfl, (blk_cell h 6).trans rfl, (blk_cell h 7).trans rfl, (blk_cell h 8).trans rfl, (blk_cell h 9).trans rfl, (blk_cell h 10).trans rfl⟩
theorem after_box {w w1 : World} {cs : Array Value} {t : Nat} (hb : Below (w.alloc (.cells cs t)).heap.size (w.alloc (.cells cs t)) w1) : w1.heap[w.heap.size]? = some (.cells cs t (0, 0)) :=
  (hb.block _ (by simp)).trans (heap_alloc_new w _)
set_option maxRecDepth 100000 in
set_option maxHeartbeats 1600000 in
theorem put_x (w : World) {base b : Nat} {T : Nat → List TB} (h : Sto w base b T) (hbase : base ≤ w.heap.size) (x : TB) (hn : (toL T).length < 1000) :
    Calls Try.prog 35 #[.pointer (some ⟨b, 0, none⟩), .agg #[.int .i64 x.f0.f0, .int .i64 x.f0.f1, .int .i64 x.f0.f2, .int .i64 x.f1, .int .i64 x.f2, .int .i64 x.f3, .int .i64 x.f4, .int .i64 x.f5, .int .i64 x.f6, .int .i64 x.f7, .int .i64 x.f8]] w fun e w' =>
      ∃ r : Int, e = .returned (.int .i64 r) ∧ Keeps base w w' ∧ ((r = 0 ∧ chk x = 0 ∧ ¬ inT T x.f0 ∧ Sto w' base b (addT T x)) ∨ (r ≠ 0 ∧ (chk x ≠ 0 ∨ inT T x.f0) ∧ Sto w' base b T)) := by
  obtain ⟨hck, hokb⟩ := check_f x
  by_cases hc : chk x = 0
  · have hcb : (chk x != 0) = false := by simp [hc]
    have hok := hokb hc
    obtain ⟨⟨mb, sv, f, ow, hr, hl⟩, hk⟩ := h
    have hwf := hok.wf
    obtain ⟨m, hm⟩ : ∃ m : Nat, x.f1 = (m : Int) := ⟨x.f1.toNat, by have := hok.1; omega⟩
    have hmn : x.f1.toNat = m := by rw [hm]; rfl
    have hm32 : m < 32 := by have := hok.1; omega
    have HB := Aside0.mk hr
    have HM := Aside0.mk hm
    have HMN := Aside0.mk hmn
    clear hm hmn
    by_cases hs : inT T x.f0
    · have hfs : (f x.f0).isSome = true := (hl.isSome x.f0).2 hs
      go_enter Try.func35, Try.ntmps35
      go_wp2_with (first
        | (go_at_call 55; refine (parts_Check.calls 20 x.f0.f0 x.f0.f1 x.f0.f2 x.f1 x.f2 x.f3 x.f4 x.f5 x.f6 x.f7 x.f8 _ _ hck).mono ?_; rintro e w1 ⟨rfl, hb1⟩; obtain ⟨x0, x1, x2, x3, x4, x5, x6, x7, x8, x9, x10⟩ := box11 (after_box hb1); have hB1 : Below w.heap.size w w1 := Below.trans ((Below.refl _ w).alloc (Nat.le_refl _) _) (hb1.mono (by simp)); have hR1 := Aside0.mk (HB.out.below hB1); have hmc := hR1.out.mcell; have hmp := Aside0.mk hR1.out.map; clear hb1)
        | (go_at_call 50; refine (has_x b mb (toL T).length x.f0 f _ hwf hmc hmp.out).mono ?_; rintro e w2 ⟨rfl, hb2⟩))
      go_ret
      have hB2 := hB1.trans (hb2.mono hB1.size)
      exact ⟨7, rfl, Keeps.of_below hbase hB2, .inr ⟨by omega, .inr hs, ⟨⟨mb, sv, f, ow, HB.out.below hB2, hl⟩, hk⟩⟩⟩
    · have hfn : f x.f0 = none := by
        cases e : f x.f0 with
        | none => rfl
        | some p => exact absurd ((hl.isSome x.f0).1 (by rw [e]; rfl)) hs
      have hfs : (f x.f0).isSome = false := by rw [hfn]; rfl
      have HFN := Aside0.mk hfn
      clear hfn
      go_enter Try.func35, Try.ntmps35
      go_wp2_with (first
        | (go_at_call 55; refine (parts_Check.calls 20 x.f0.f0 x.f0.f1 x.f0.f2 x.f1 x.f2 x.f3 x.f4 x.f5 x.f6 x.f7 x.f8 _ _ hck).mono ?_; rintro e w1 ⟨rfl, hb1⟩; obtain ⟨x0, x1, x2, x3, x4, x5, x6, x7, x8, x9, x10⟩ := box11 (after_box hb1); have hx1 := Aside0.mk (after_box hb1); have hB1 : Below w.heap.size w w1 := Below.trans ((Below.refl _ w).alloc (Nat.le_refl _) _) (hb1.mono (by simp)); have hR1 := Aside0.mk (HB.out.below hB1); have hmc := hR1.out.mcell; have hmp := Aside0.mk hR1.out.map; clear hb1)
        | (go_at_call 50; refine (has_x b mb (toL T).length x.f0 f _ hwf hmc hmp.out).mono ?_; rintro e w2 ⟨rfl, hb2⟩; clear x0 x1 x2 x3 x4 x5 x6 x7 x8 x9 x10; obtain ⟨x0, x1, x2, x3, x4, x5, x6, x7, x8, x9, x10⟩ := box11 ((hb2.block _ (blk_lt hx1.out)).trans hx1.out))
        | (go_at_call 56; have hB2 := hB1.trans (hb2.mono hB1.size); have hadd := add_x w2 (hR1.out.below hb2) (Nat.le_trans hbase hB2.size) x m hm32 hwf (Nat.lt_trans hn (by decide)) HFN.out (by rw [idsOf_len]; have := len_le (T := T) hm32; omega) (fun o => by have := colsOf_le T o; omega); rw [← HM.out] at hadd; refine hadd.mono ?_; rintro e w3 ⟨rfl, hK3, hR3⟩))
      go_ret
      obtain ⟨sv', ow', hR3⟩ := hR3
      refine ⟨0, rfl, (Keeps.of_below hbase hB2).trans hK3 hbase, .inl ⟨rfl, hc, hs, ?_⟩⟩
      rw [HM.out] at hR3
      have hl' := hl.add x HFN.out (by rw [HMN.out]; exact hm32)
      rw [HMN.out, ← idsOf_len T m] at hl'
      have hlen : (toL (addT T x)).length = (toL T).length + 1 := by
        rw [(toL_add T x (by rw [HMN.out]; exact hm32)).length_eq]; rfl
      refine ⟨⟨mb, sv', _, ow', ?_, hl'⟩, ?_⟩
      · rw [hlen]
        refine hR3.congr (fun k _ => ?_) (fun o ho h8 => ?_)
        · rw [idsOf_add, HMN.out]
        · rw [colsOf_add T x o ho h8, HMN.out]
      · intro k y hk' hy
        unfold addT at hy
        by_cases e : k = x.f1.toNat
        · subst e
          rw [upd_same] at hy
          rcases List.mem_append.1 hy with hy | hy
          · exact hk _ y hk' hy
          · rw [List.mem_singleton.1 hy]; exact ⟨by rw [HMN.out]; exact HM.out, hok⟩
        · rw [upd_other _ e] at hy
          exact hk k y hk' hy
  · have hcb : (chk x != 0) = true := by simp [hc]
    go_enter Try.func35, Try.ntmps35
    go_wp2_with (go_at_call 55; refine (parts_Check.calls 20 x.f0.f0 x.f0.f1 x.f0.f2 x.f1 x.f2 x.f3 x.f4 x.f5 x.f6 x.f7 x.f8 _ _ hck).mono ?_; rintro e w1 ⟨rfl, hb1⟩)
    go_ret
    have hB : Below w.heap.size w w1 := Below.trans (by repeat (first | exact Below.refl _ _ | apply below_alloc | apply below_drew)) (hb1.mono (by simp))
    exact ⟨1, rfl, Keeps.of_below hbase hB, .inr ⟨by omega, .inl hc, h.below hB⟩⟩
end Go.Proofs.Ythcgiacjmfmamaa.PA

namespace Go.Proofs.Ythcgiacjmfmamaa.PA
set_option linter.unusedVariables false
set_option linter.unusedSimpArgs false
open Go.RowKit Go.Shelf Go.Proofs.YthcgiacjmfmamaaW.PrintWords
attribute [local go_sem] Oper.semAt_some
/-- What has come when the tables below m and r rows of the table m have come. -/
def come (T : Nat → List TB) (m r : Nat) : List TB := (List.range m).flatMap T ++ (T m).take r
theorem come_zero (T : Nat → List TB) : come T 0 0 = [] := by simp [come]
theorem come_row (T : Nat → List TB) (m r : Nat) (h : r < (T m).length) : come T m (r + 1) = come T m r ++ [(T m)[r]] := by
  unfold come
  rw [List.take_succ_eq_append_getElem h, List.append_assoc]
theorem come_table (T : Nat → List TB) (m : Nat) : come T m (T m).length = come T (m + 1) 0 := by
  unfold come
  rw [List.take_length, List.take_zero, List.append_nil, List.range_succ, List.flatMap_append]
  simp
theorem come_all (T : Nat → List TB) : come T 32 0 = toL T := by simp [come, toL]
theorem come_prefix (T : Nat → List TB) (m r : Nat) (hm : m < 32) : come T m r <+: toL T := by
  have h1 : come T m r <+: (List.range (m + 1)).flatMap T := by
    unfold come
    rw [List.range_succ, List.flatMap_append]
    refine List.prefix_append_right_inj _ |>.2 ?_
    simp [List.take_prefix]
  refine h1.trans ?_
  unfold toL
  have e : List.range 32 = List.range (m + 1) ++ (List.range (32 - (m + 1))).map (m + 1 + ·) := by
    rw [← List.range_add]; congr 1; omega
  rw [e, List.flatMap_append]
  exact List.prefix_append _ _
theorem come_lt (T : Nat → List TB) (m r : Nat) (hm : m < 32) (h : r < (T m).length) : (come T m r).length < (toL T).length := by
  have h1 := come_prefix T m (r + 1) hm
  rw [come_row T m r h] at h1
  have := h1.length_le
  simp at this
  omega
/-- What a round that goes on keeps: whatever lay below n₀, and the box that holds the store's address. -/
def KpA (n₀ Bs : Nat) (W W' : World) : Prop := Below n₀ W W' ∧ W'.heap[Bs]? = W.heap[Bs]?
theorem KpA.trans {n₀ Bs : Nat} {A B C : World} (h : KpA n₀ Bs A B) (k : KpA n₀ Bs B C) : KpA n₀ Bs A C := ⟨h.1.trans k.1, k.2.trans h.2⟩
set_option maxRecDepth 100000 in
set_option maxHeartbeats 2000000 in
theorem all1_nil_in (n : Nat) (l Bs : Nat) (J : List TB → World → Prop) (W : World) (hBs : W.cell? ⟨Bs, 0, none⟩ = some (.pointer none)) (h0 : J [] W) :
    CallsIn Fence.wide n Try.prog 71 #[.func (.yield l) #[] #[], .pointer (some ⟨Bs, 0, none⟩)] W fun e W' => (∃ v, e = .returned v) ∧ J [] W' := by
  refine callsIn_of_wp Try.func71 rfl trivial ?_ rfl
  simp only [Try.ntmps71, List.size_toArray, List.length_cons, List.length_nil, Nat.reduceAdd, Nat.reduceSub, Array.replicate_succ, Array.replicate_zero, List.push_toArray, List.append_toArray, List.nil_append, List.cons_append]
  gi_wp2
  refine bodyPost_ret (results_none rfl _ _ _) rfl ?_
  exact ⟨⟨_, rfl⟩, h0⟩
theorem colsOf_at (T : Nat → List TB) (m r j : Nat) (hm : m < 32) (hj : j < 7) (hr : r < (T m).length) : (colsOf T (m * 8 + 1 + j))[r]? = some (numB (T m)[r] j) := by
  unfold colsOf
  rw [if_pos (by omega), show (m * 8 + 1 + j) / 8 = m by omega, show (m * 8 + 1 + j) % 8 - 1 = j by omega, List.getElem?_map, List.getElem?_eq_getElem hr]
  rfl
theorem Sto.at (w : World) {base b : Nat} {T : Nat → List TB} (h : Sto w base b T) (m r : Nat) (hm : m < 32) (hr : r < (T m).length) (hn : (toL T).length < 1000) :
    Calls Try.prog 51 #[.pointer (some ⟨b, 0, none⟩), .agg #[.int .i64 m, .int .i64 r]] w fun e w' => e = .returned (.agg #[.int .i64 (T m)[r].f0.f0, .int .i64 (T m)[r].f0.f1, .int .i64 (T m)[r].f0.f2, .int .i64 (T m)[r].f1, .int .i64 (T m)[r].f2, .int .i64 (T m)[r].f3, .int .i64 (T m)[r].f4, .int .i64 (T m)[r].f5, .int .i64 (T m)[r].f6, .int .i64 (T m)[r].f7, .int .i64 (T m)[r].f8]) ∧ Below w.heap.size w w' := by
  obtain ⟨⟨mb, sv, f, ow, hR, hl⟩, hk⟩ := h
  have hlm := len_le (T := T) hm
  have e1 := (hk m (T m)[r] hm (List.getElem_mem hr)).1
  have hx := at_x w hR m r hm (by rw [idsOf_len]; exact hr) (fun j h1 h2 => by rw [colsOf_len T _ (by omega), idsOf_len, show (m * 8 + j) / 8 = m by omega]) (by rw [idsOf_len]; omega) (T m)[r] (by simp [idsOf]) (fun j hj => by
    exact (List.getElem?_eq_some_iff.1 (colsOf_at T m r j hm hj hr)).2.symm)
  rw [e1]
  exact hx
theorem Sto.slice {w : World} {base b : Nat} {T : Nat → List TB} (h : Sto w base b T) (m : Nat) (hm : m < 32) : ∃ A c, w.cell? ⟨b, m * 8, none⟩ = some (.slice A (T m).length c) := by
  obtain ⟨⟨mb, sv, f, ow, hR, hl⟩, hk⟩ := h
  obtain ⟨A, c, hv⟩ : ∃ A c, sv (8 * m) = .slice A (idsOf T m).length c := own_slice (hR.ids m hm)
  refine ⟨A, c, ?_⟩
  rw [Nat.mul_comm, hR.cell (8 * m) (by omega), hv, idsOf_len]
theorem wide_calls {F : Fence} {n : Nat} {P : Program} {f : FuncId} {args : Array Value} {w : World} {R : Ending → World → Prop} (hF : F = Fence.wide) (h : Calls P f args w R) : CallsIn F n P f args w R := by rw [hF]; exact callsIn_wide.2 h
theorem grown_below {A B : World} (hb : Below A.heap.size A B) : A.grownBy B none := ⟨hb.os, hb.tape, hb.output, hb.size, fun k hk _ => hb.block k hk⟩
set_option maxRecDepth 100000 in
set_option maxHeartbeats 4000000 in
theorem all1_in (F : Fence) (hF : F = Fence.wide) (n : Nat) (hn1 : 1 ≤ n) (l Bs base b : Nat) (w : World) (T : Nat → List TB) (h : Sto w base b T) (hlen : (toL T).length < 1000) (J Jx : List TB → World → Prop)
    (hY : ∀ pre (x : TB) W, J pre W → pre.length < (toL T).length → YieldAt F (n - 1) Try.prog l #[.agg #[.int .i64 x.f0.f0, .int .i64 x.f0.f1, .int .i64 x.f0.f2, .int .i64 x.f1, .int .i64 x.f2, .int .i64 x.f3, .int .i64 x.f4, .int .i64 x.f5, .int .i64 x.f6, .int .i64 x.f7, .int .i64 x.f8]] W fun e W' =>
      (e = .returned (.bool true) ∧ J (pre ++ [x]) W' ∧ KpA w.heap.size Bs W W') ∨ (e = .returned (.bool false) ∧ Jx (pre ++ [x]) W'))
    (W : World) (hJ : AbidesFrom W.heap.size J) (hW : Below w.heap.size w W) (hBn : Bs < W.heap.size) (hBs : W.cell? ⟨Bs, 0, none⟩ = some (.pointer (some ⟨b, 0, none⟩))) (h0 : J [] W) :
    CallsIn F n Try.prog 71 #[.func (.yield l) #[] #[], .pointer (some ⟨Bs, 0, none⟩)] W fun e W' => (∃ v, e = .returned v) ∧
      ((∃ ys, ys = toL T ∧ J ys W') ∨ (∃ pre, pre <+: toL T ∧ Jx pre W')) := by
  have hro : F.round = none := by rw [hF]; rfl
  have hf1 : F.fn 71 := by rw [hF]; trivial
  have hf2 : F.fn 51 := by rw [hF]; trivial
  have HF := Aside0.mk hF
  clear hF
  refine callsIn_of_wp Try.func71 rfl hf1 ?_ hro
  simp only [Try.ntmps71, List.size_toArray, List.length_cons, List.length_nil, Nat.reduceAdd, Nat.reduceSub, Array.replicate_succ, Array.replicate_zero, List.push_toArray, List.append_toArray, List.nil_append, List.cons_append]
  gi_wp2
  gi_loopw [7] (fun v7 wr => ∃ m : Nat, m ≤ 32 ∧ v7 = .int .i64 m ∧ J (come T m 0) wr ∧ KpA w.heap.size Bs W wr ∧ Bs < wr.heap.size) (fun v7 _ => 32 - (intOf v7).toNat)
  case atStart => exact ⟨0, Nat.zero_le _, rfl, by rw [come_zero]; exact h0, ⟨Below.refl _ _, rfl⟩, hBn⟩
  case round =>
    obtain ⟨m, hm, rfl, hJm, hKm, hBm⟩ := hrel
    have hcb : wr.cell? ⟨Bs, 0, none⟩ = some (.pointer (some ⟨b, 0, none⟩)) := (World.cell?_of_block (w := W) hKm.2).trans hBs
    by_cases hlt : m < 32
    · have hS := h.below (hW.trans hKm.1)
      obtain ⟨A, c, hsl⟩ := hS.slice m hlt
      have k1 : (m : Int) < 32 := by omega
      have k0 : (0 : Int) ≤ (m : Int) := by omega
      gi_wp2
      gi_loopw [18] (fun v18 wk => ∃ r : Nat, r ≤ (T m).length ∧ v18 = .int .i64 r ∧ J (come T m r) wk ∧ KpA w.heap.size Bs W wk ∧ Bs < wk.heap.size) (fun v18 _ => (T m).length - (intOf v18).toNat)
      case atStart => exact ⟨0, Nat.zero_le _, rfl, hJm, hKm, hBm⟩
      case round =>
        clear hcb hS hsl hJm hKm hBm
        obtain ⟨r, hr, rfl, hJm, hKm, hBm⟩ := hrel
        by_cases hlt2 : r < (T m).length
        · have g1 : (r : Int) < ((T m).length : Int) := by omega
          have hlm := len_le (T := T) hlt
          have hcb : wr.cell? ⟨Bs, 0, none⟩ = some (.pointer (some ⟨b, 0, none⟩)) := (World.cell?_of_block (w := W) hKm.2).trans hBs
          have hS := h.below (hW.trans hKm.1)
          have hat := wide_calls (n := n - 1) HF.out (Sto.at wr hS m r hlt hlt2 hlen)
          obtain ⟨x, hx⟩ : ∃ x, x = (T m)[r] := ⟨_, rfl⟩
          rw [← hx] at hat
          have hrow := Aside0.mk (come_row T m r hlt2)
          rw [← hx] at hrow
          clear hx
          gi_wp2_with (gi_at_call 51; refine hat.mono ?_; rintro e w2 ⟨rfl, hb2⟩; have hJ2 := hJ _ wr w2 none hJm (grown_below hb2) (fun _ e => by cases e); obtain ⟨fn, tmps, assign, body, hy, hR⟩ := hY _ x w2 hJ2 (come_lt T m r hlt hlt2))
          refine hR.mono ?_
          rintro e W3 (⟨rfl, hJ3, hk3⟩ | ⟨rfl, hJx3⟩)
          · gi_wp2
            go_roundw
            case rel =>
              refine ⟨r + 1, hlt2, by go_num, by rw [hrow.out]; exact hJ3, (hKm.trans ⟨hb2.mono (hW.trans hKm.1).size, hb2.block _ hBm⟩).trans hk3, ?_⟩
              exact Nat.lt_of_lt_of_le hBm (Nat.le_trans hb2.size hk3.1.size)
            case measure =>
              have e9 : IntKind.i64.wrap ((r : Int) + 1) = (r : Int) + 1 := IntWalk.i64_in _ (by omega)
              simp [intOf, e9]; omega
          · gi_wp2
            refine bodyPost_ret (results_none rfl _ _ _) rfl ?_
            exact ⟨⟨_, rfl⟩, .inr ⟨_, by rw [← hrow.out]; exact come_prefix T m (r + 1) hlt, hJx3⟩⟩
        · obtain rfl : r = (T m).length := by omega
          have g1 : ¬ ((T m).length : Int) < ((T m).length : Int) := by omega
          gi_wp2
          go_roundw
          case rel => exact ⟨m + 1, by omega, by go_num, by rw [← come_table]; exact hJm, hKm, hBm⟩
          case measure => simp [intOf]; omega
    · obtain rfl : m = 32 := by omega
      gi_wp2
      go_end0
      exact ⟨⟨_, rfl⟩, .inl ⟨_, rfl, by rw [← come_all]; exact hJm⟩⟩
end Go.Proofs.Ythcgiacjmfmamaa.PA

namespace Go.Proofs.Ythcgiacjmfmamaa.PA
set_option linter.unusedVariables false
set_option linter.unusedSimpArgs false
open Go.RowKit Go.Shelf Go.Proofs.YthcgiacjmfmamaaW.PrintWords
attribute [local go_sem] Oper.semAt_some
def encB (x : TB) : Array Value := #[.agg #[.int .i64 x.f0.f0, .int .i64 x.f0.f1, .int .i64 x.f0.f2, .int .i64 x.f1, .int .i64 x.f2, .int .i64 x.f3, .int .i64 x.f4, .int .i64 x.f5, .int .i64 x.f6, .int .i64 x.f7, .int .i64 x.f8]]
set_option maxHeartbeats 1000000 in
theorem all_in (F : Fence) (hF : F = Fence.wide) (n : Nat) (p : Option Addr) (w : World) :
    CallsIn F n Try.prog 59 #[.pointer p] w fun e w' => e = .returned (.func (.func 71) #[] #[.pointer (some ⟨w.heap.size, 0, none⟩)]) ∧ w' = w.alloc (.cells #[.pointer p] 32) := by
  have hro : F.round = none := by rw [hF]; rfl
  have hf1 : F.fn 59 := by rw [hF]; trivial
  clear hF
  refine callsIn_of_wp Try.func59 rfl hf1 ?_ hro
  simp only [Try.ntmps59, List.size_toArray, List.length_cons, List.length_nil, Nat.reduceAdd, Nat.reduceSub, Array.replicate_succ, Array.replicate_zero, List.push_toArray, List.append_toArray, List.nil_append, List.cons_append]
  gi_wp2
  go_ret
  exact ⟨rfl, rfl⟩
theorem all_stops (F : Fence) (hF : F = Fence.wide) (n : Nat) (hn : 1 ≤ n) (Bs base b : Nat) (wE : World) (T : Nat → List TB) (h : Sto wE base b T) (hlen : (toL T).length < 1000) (w : World) (hb : Below wE.heap.size wE w) (hBn : Bs < w.heap.size)
    (hBs : w.cell? ⟨Bs, 0, none⟩ = some (.pointer (some ⟨b, 0, none⟩))) :
    SeqStopsK F n Try.prog 71 #[.pointer (some ⟨Bs, 0, none⟩)] encB (KpA wE.heap.size Bs) (fun ys => ys = toL T) (fun pre => pre <+: toL T) (toL T).length w := fun l J Jx W hW hJ _ hY h0 =>
  all1_in F hF n hn l Bs base b wE T h hlen J Jx hY W hJ (hb.trans (hW.mono hb.size)) (Nat.lt_of_lt_of_le hBn hW.size) ((hW.cell (p := ⟨Bs, 0, none⟩) hBn).trans hBs) h0
theorem all_nil_stops (F : Fence) (hF : F = Fence.wide) (n : Nat) (Bs n₀ : Nat) (w : World) (hBn : Bs < w.heap.size) (hBs : w.cell? ⟨Bs, 0, none⟩ = some (.pointer none)) :
    SeqStopsK F n Try.prog 71 #[.pointer (some ⟨Bs, 0, none⟩)] encB (KpA n₀ Bs) (fun ys => ys = []) (fun pre => pre = []) 0 w := fun l J Jx W hW hJ _ hY h0 => by
  subst hF
  exact (all1_nil_in n l Bs J W ((hW.cell (p := ⟨Bs, 0, none⟩) hBn).trans hBs) h0).mono fun e W' ⟨he, hj⟩ => ⟨he, .inl ⟨_, rfl, hj⟩⟩
end Go.Proofs.Ythcgiacjmfmamaa.PA
