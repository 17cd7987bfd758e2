/-
  A store (arch.Store) in memory: its map, its rows; New, add, has, at.
-/
import Derived.Test.YthcgiacjmfmamaaV2
import Derived.Outline
import Derived.BigRegion
import Derived.Maps.OwnSet
import Derived.Maps.Ext
import Derived.DeepKeys4
import Derived.Deep.AppendLies
import Derived.Deep.RegionHeld3
import Derived.Deep.RegionLaw
import Derived.Deep.DeepCutAuto
import Derived.StillTailTactics
namespace Go.Proofs.Ythcgiacjmfmamaa.PA
open Go.RowKit
theorem laidOut : laidOutB Try.prog = true := by kernel_rfl
theorem rowID : (48 : TypeId) < Try.prog.types.size := of_decide_eq_true (by kernel_rfl)
theorem keyAtID : Try.prog.keyTypeAt 2 48 = true := by kernel_rfl
theorem lawID : WideMaps.KeyLaw Try.prog 48 := by
  refine deep_law_laid laidOut (m := 2) (by omega) rowID keyAtID ?_
  rw [Try.underlying48]
theorem keyedID : Maps.Keyed Try.prog 48 := Maps.Keyed.of_law lawID
abbrev TID := S48
abbrev TB := S51
def idV (x : TID) : Value := .agg #[.int .i64 x.f0, .int .i64 x.f1, .int .i64 x.f2]
theorem keyTID : Try.prog.keyType 48 = true := by kernel_rfl
theorem size_types : ∃ n, Try.prog.types.size + 1 = n + 2 := ⟨Try.prog.types.size - 1, by have h : (48 : Nat) < Try.prog.types.size := rowID; omega⟩
theorem cellsID : Try.prog.cellsOf 48 = 3 := by kernel_rfl
theorem cellsInt : Try.prog.cellsOf 3 = 1 := by kernel_rfl
def wfI (n : Int) : Prop := (Lit.int .i64 n).wf = true
def wfID (x : TID) : Prop := (Lit.int .i64 x.f0).wf = true ∧ (Lit.int .i64 x.f1).wf = true ∧ (Lit.int .i64 x.f2).wf = true
def kl (x : TID) : Lit := .string (keyBytes [.int .i64 x.f0, .int .i64 x.f1, .int .i64 x.f2])
theorem litsInt (d : Nat) (n : Int) (h : (Lit.int .i64 n).wf = true) : Try.prog.keyLits (d + 1) 3 [.int .i64 n] = some [.int .i64 n] := by
  unfold Program.keyLits
  simp [Try.underlying3, h]
theorem litsID (d : Nat) (x : TID) (h : wfID x) : Try.prog.keyLits (d + 2) 48 [.int .i64 x.f0, .int .i64 x.f1, .int .i64 x.f2] = some [.int .i64 x.f0, .int .i64 x.f1, .int .i64 x.f2] := by
  unfold Program.keyLits
  simp [Try.underlying48, cellsID, cellsInt, litsInt _ _ h.1, litsInt _ _ h.2.1, litsInt _ _ h.2.2]
theorem keyOf_idV (x : TID) (h : wfID x) : keyOf Try.prog 48 (idV x) = some (kl x) := by
  obtain ⟨n, hn⟩ := size_types
  have e := litsID n x h
  unfold keyOf
  rw [Try.underlying48]
  simp only [keyTID, idV, Value.formed, Try.underlying48, cellsID, hn, Bool.true_and, Value.cells]
  rw [e]
  rfl
theorem kl_inj {x y : TID} (hx : wfID x) (hy : wfID y) (h : kl x = kl y) : x = y := by
  have e := keyedID.inj (keyOf_idV x hx) (h ▸ keyOf_idV y hy)
  cases x; cases y
  simp [idV] at e
  simp [e]
theorem kl_key (x : TID) : WideAt.IsKeyLit (kl x) := trivial

/-! the element: a place -/
def placeV (p : Int × Int) : Value := .agg #[.int .i64 p.1, .int .i64 p.2]
def placeD (p : Int × Int) : DataW Nat := .agg [.lit (.int .i64 p.1), .lit (.int .i64 p.2)]
def placeR : Value → Option (DataW Nat × List MemPlace)
  | .agg cs => match cs.toList with
    | [.int .i64 a, .int .i64 b] => some (placeD (a, b), [])
    | _ => none
  | _ => none
theorem placeR_mk (p : Int × Int) : placeR (placeV p) = some (placeD p, []) := rfl
theorem placeD_inj {p q : Int × Int} (h : placeD p = placeD q) : p = q := by
  obtain ⟨a, b⟩ := p
  obtain ⟨c, d⟩ := q
  simp [placeD] at h
  simp [h]
theorem placeR_inv {v : Value} {z : DataW Nat × List MemPlace} (h : placeR v = some z) : ∃ p, v = placeV p ∧ z = (placeD p, []) := by
  unfold placeR at h
  split at h
  · split at h
    · rename_i cs _ a b hl
      refine ⟨(a, b), ?_, by simpa using h.symm⟩
      unfold placeV
      congr 1
      apply Array.ext'
      rw [hl]
    · cases h
  · cases h
theorem zeroPlace (w : World) : (zeroValue 81).run Try.prog w = .ok (placeV (0, 0)) w := by kernel_rfl

/-- BLOCK mb IS A MAP OF n ENTRIES: of a name x that is well formed it has f x. -/
def PMap (w : World) (mb n : Nat) (f : TID → Option (Int × Int)) : Prop :=
  ∃ D, w.ownsMap Try.prog 48 placeR mb n D ∧ Maps.size D = n ∧ ∀ x, wfID x → Maps.has D (kl x) = (f x).isSome ∧ ∀ p z, f x = some p → D.atKey (kl x) z = placeD p

theorem PMap.congr {w w' : World} {mb n : Nat} {f : TID → Option (Int × Int)} (h : PMap w mb n f) (hw : w'.heap[mb]? = w.heap[mb]?) : PMap w' mb n f := by
  obtain ⟨D, ⟨es, clock, hb, r⟩, h2⟩ := h
  exact ⟨D, ⟨es, clock, hw.trans hb, r⟩, h2⟩
theorem PMap.lt {w : World} {mb n : Nat} {f : TID → Option (Int × Int)} (h : PMap w mb n f) : mb < w.heap.size := by
  obtain ⟨D, h, _⟩ := h
  exact h.lt
theorem PMap.made (w : World) : PMap (w.alloc (.map #[] 0)) w.heap.size 0 (fun _ => none) :=
  ⟨_, World.ownsMap_made w _ _ _, rfl, fun x _ => ⟨rfl, fun p z h => by cases h⟩⟩

theorem PMap.look {w : World} {mb n : Nat} {f : TID → Option (Int × Int)} (h : PMap w mb n f) (x : TID) (hx : wfID x) :
    (Instr.lookup 85 (.map (some mb)) (idV x) true).run Try.prog w = .ok (.tuple #[placeV ((f x).getD (0, 0)), .bool (f x).isSome]) w := by
  obtain ⟨D, ho, _, hf⟩ := h
  obtain ⟨v, ps, hrun, hv⟩ := ho.look_ok keyedID Try.underlying85 (zeroPlace w) (placeR_mk (0, 0)) (keyOf_idV x hx)
  obtain ⟨h1, h2⟩ := hf x hx
  obtain ⟨p, rfl, hz⟩ := placeR_inv hv
  simp only [Prod.mk.injEq] at hz
  rw [hrun, h1]
  cases hfx : f x with
  | some q =>
    rw [h2 q _ hfx] at hz
    rw [placeD_inj hz.1]; rfl
  | none =>
    rw [hfx] at h1
    rw [Maps.atKey_of_not_has h1] at hz
    rw [← placeD_inj hz.1]; rfl
theorem PMap.look1 {w : World} {mb n : Nat} {f : TID → Option (Int × Int)} (h : PMap w mb n f) (x : TID) (hx : wfID x) :
    (Instr.lookup 85 (.map (some mb)) (idV x) false).run Try.prog w = .ok (placeV ((f x).getD (0, 0))) w := by
  obtain ⟨D, ho, _, hf⟩ := h
  obtain ⟨v, ps, hrun, hv⟩ := ho.lookup keyedID Try.underlying85 (zeroPlace w) (placeR_mk (0, 0)) (keyOf_idV x hx)
  obtain ⟨h1, h2⟩ := hf x hx
  obtain ⟨p, rfl, hz⟩ := placeR_inv hv
  simp only [Prod.mk.injEq] at hz
  rw [hrun]
  cases hfx : f x with
  | some q =>
    rw [h2 q _ hfx] at hz
    rw [placeD_inj hz.1]; rfl
  | none =>
    rw [hfx] at h1
    rw [Maps.atKey_of_not_has h1] at hz
    rw [← placeD_inj hz.1]; rfl

/-- f, but x stands at p (at none: nowhere) -/
def fset (f : TID → Option (Int × Int)) (x : TID) (p : Option (Int × Int)) : TID → Option (Int × Int) :=
  fun y => if y.f0 = x.f0 ∧ y.f1 = x.f1 ∧ y.f2 = x.f2 then p else f y
theorem id_ext {x y : TID} (h : y.f0 = x.f0 ∧ y.f1 = x.f1 ∧ y.f2 = x.f2) : y = x := by
  cases x; cases y
  simp at h
  simp [h]
theorem fset_same (f : TID → Option (Int × Int)) (x : TID) (p : Option (Int × Int)) : fset f x p x = p := by simp [fset]
theorem fset_other (f : TID → Option (Int × Int)) {x y : TID} (h : y ≠ x) (p : Option (Int × Int)) : fset f x p y = f y := by
  unfold fset
  rw [if_neg (fun e => h (id_ext e))]

theorem PMap.store {w : World} {mb n : Nat} {f : TID → Option (Int × Int)} (h : PMap w mb n f) (x : TID) (hx : wfID x) (p : Int × Int) (hn : n < maxLen) :
    ∃ w', (Instr.mapUpdate 85 (.map (some mb)) (idV x) (placeV p)).run Try.prog w = .ok () w' ∧ PMap w' mb (if (f x).isSome then n else n + 1) (fset f x (some p)) ∧ w.mapTurned w' mb := by
  obtain ⟨D, ho, hs, hf⟩ := h
  obtain ⟨w', hrun, ho', ht⟩ := ho.store keyedID Try.underlying85 hn (keyOf_idV x hx) (placeR_mk p)
  have hsz := Maps.size_put (ho.tidy keyedID) (k := kl x) (placeD p)
  rw [(hf x hx).1, hs] at hsz
  refine ⟨w', hrun, ⟨D.put (kl x) (placeD p), ?_, hsz, ?_⟩, ht⟩
  · obtain ⟨es, clock, hb, F, hle, hD⟩ := ho'
    refine ⟨es, clock, hb, F, ?_, hD⟩
    have : es.size = Maps.size (D.put (kl x) (placeD p)) := by rw [hD]; simp [Maps.size, Go.length_sorted]
    rw [this, hsz]
    exact Nat.le_refl _
  · intro y hy
    by_cases e : y = x
    · subst e
      refine ⟨?_, fun q z hq => ?_⟩
      · rw [Maps.has_put_same ho.isMap (kl_key _), fset_same]; rfl
      · rw [Maps.atKey_put_same ho.isMap (kl_key _)]
        rw [fset_same] at hq
        cases hq; rfl
    · have hne : kl y ≠ kl x := fun h => e (kl_inj hy hx h)
      rw [Maps.has_put_other hne, fset_other f e]
      refine ⟨(hf y hy).1, fun q z hq => ?_⟩
      rw [Maps.atKey_put_other hne]
      exact (hf y hy).2 q z hq
theorem PMap.drop {w : World} {mb n : Nat} {f : TID → Option (Int × Int)} (h : PMap w mb n f) (x : TID) (hx : wfID x) (hfx : (f x).isSome = true) (ty : TypeId) :
    ∃ w', (Builtin.delete_ #[85, 48] ty #[.map (some mb), idV x]).run Try.prog w = .ok (.tuple #[]) w' ∧ PMap w' mb (n - 1) (fset f x none) ∧ w.mapTurned w' mb := by
  obtain ⟨D, ho, hs, hf⟩ := h
  obtain ⟨w', hrun, ho', ht⟩ := ho.drop keyedID Try.underlying85 (keyOf_idV x hx) ty
  have hsz := Maps.size_del (ho.tidy keyedID) (k := kl x)
  rw [(hf x hx).1, hs, hfx] at hsz
  simp only [if_true] at hsz
  refine ⟨w', hrun, ⟨D.del (kl x), ?_, by omega, ?_⟩, ht⟩
  · obtain ⟨es, clock, hb, F, hle, hD⟩ := ho'
    refine ⟨es, clock, hb, F, ?_, hD⟩
    have : es.size = Maps.size (D.del (kl x)) := by rw [hD]; simp [Maps.size, Go.length_sorted]
    omega
  · intro y hy
    by_cases e : y = x
    · subst e
      refine ⟨?_, fun q z hq => ?_⟩
      · rw [Maps.has_del_same, fset_same]; rfl
      · rw [fset_same] at hq; cases hq
    · have hne : kl y ≠ kl x := fun h => e (kl_inj hy hx h)
      rw [Maps.has_del_other hne, fset_other f e]
      refine ⟨(hf y hy).1, fun q z hq => ?_⟩
      rw [Maps.atKey_del_other hne]
      exact (hf y hy).2 q z hq
theorem PMap.len {w : World} {mb n : Nat} {f : TID → Option (Int × Int)} (h : PMap w mb n f) (ty : TypeId) : (Builtin.len_ #[85] ty #[.map (some mb)]).run Try.prog w = .ok (.int .i64 n) w := by
  obtain ⟨D, ho, hs, hf⟩ := h
  rw [ho.len Try.underlying85 ty, hs]
end Go.Proofs.Ythcgiacjmfmamaa.PA

namespace Go.Proofs.Ythcgiacjmfmamaa.PA
open Go.RowKit Go.Proofs.YthcgiacjmfmamaaW.PrintWords
theorem heap_old (w : World) (o : Obj) (k : Nat) (h : k < w.heap.size) : (w.alloc o).heap[k]? = w.heap[k]? := heap_alloc_old w o h
def upd {α : Type} (f : Nat → α) (a : Nat) (b : α) : Nat → α := fun x => if x = a then b else f x
theorem upd_same {α : Type} (f : Nat → α) (a : Nat) (b : α) : upd f a b a = b := by simp [upd]
theorem upd_other {α : Type} (f : Nat → α) {a x : Nat} (h : x ≠ a) (b : α) : upd f a b x = f x := by simp [upd, h]
def idCells (l : List TID) : List Value := l.flatMap fun x => [.int .i64 x.f0, .int .i64 x.f1, .int .i64 x.f2]
theorem idCells_append (l r : List TID) : idCells (l ++ r) = idCells l ++ idCells r := by simp [idCells]
theorem idCells_length (l : List TID) : (idCells l).length = l.length * 3 := by
  induction l with
  | nil => rfl
  | cons x r ih => simp only [idCells, List.flatMap_cons, List.length_append] at ih ⊢; simp at ih ⊢; omega

structure Rep (w : World) (base b mb : Nat) (sv : Nat → Value) (I : Nat → List TID) (C : Nat → List Int) (f : TID → Option (Int × Int)) (n : Nat) (ow : Nat → Nat) : Prop where
  blk : ∃ cs : Array Value, w.heap[b]? = some (.cells cs 87 (0, 0)) ∧ (∀ o, o < 256 → cs[o]? = some (sv o)) ∧ cs[256]? = some (.map (some mb))
  bb : base ≤ b
  bm : base ≤ mb
  ids : ∀ m, m < 32 → w.ownsRow base 48 3 (sv (8 * m)) (I m).length (idCells (I m))
  cols : ∀ o, o < 256 → o % 8 ≠ 0 → w.ownsRow base 3 1 (sv o) (C o).length (nums .i64 (C o))
  own : ∀ o k, o < 256 → (sv o).ownBlock = some k → ow k = o
  owb : ow b = 256
  owm : ow mb = 257
  map : PMap w mb n f

section
variable {w w' : World} {base b mb : Nat} {sv : Nat → Value} {I : Nat → List TID} {C : Nat → List Int} {f : TID → Option (Int × Int)} {n : Nat} {ow : Nat → Nat}
theorem Rep.cell (h : Rep w base b mb sv I C f n ow) (o : Nat) (ho : o < 256) : w.cell? ⟨b, o, none⟩ = some (sv o) := by
  obtain ⟨cs, hb, hc, _⟩ := h.blk
  rw [blk_cell hb]; exact hc o ho
theorem Rep.mcell (h : Rep w base b mb sv I C f n ow) : w.cell? ⟨b, 256, none⟩ = some (.map (some mb)) := by
  obtain ⟨cs, hb, _, hc⟩ := h.blk
  rw [blk_cell hb]; exact hc
theorem Rep.frozen (h : Rep w base b mb sv I C f n ow) (o : Nat) : w.frozen? ⟨b, o, none⟩ = false := by
  obtain ⟨cs, hb, _⟩ := h.blk
  exact blk_frozen hb o
theorem Rep.blt (h : Rep w base b mb sv I C f n ow) : b < w.heap.size := by
  obtain ⟨cs, hb, _⟩ := h.blk
  exact blk_lt hb
theorem own_step {w w' : World} {base : Nat} {e : TypeId} {size n : Nat} {v : Value} {xs : List Value} (h : w.ownsRow base e size v n xs) (hk : ∀ k, v.ownBlock = some k → w'.heap[k]? = w.heap[k]?) : w'.ownsRow base e size v n xs := by
  refine ⟨h.1, ?_⟩
  rcases h.2 with hn | ⟨g, cap, cur, rfl, hb, hg, r⟩
  · exact .inl hn
  · exact .inr ⟨g, cap, cur, rfl, hb, (hk g rfl).trans hg, r⟩
/-- It stays what it is where its own blocks stay. -/
theorem Rep.step (h : Rep w base b mb sv I C f n ow) (hk : ∀ k, k < w.heap.size → ow k < 258 → w'.heap[k]? = w.heap[k]?) : Rep w' base b mb sv I C f n ow := by
  have hlt : ∀ o k, o < 256 → (sv o).ownBlock = some k → w'.heap[k]? = w.heap[k]? := fun o k ho e => by
    refine hk k ?_ (by rw [h.own o k ho e]; omega)
    by_cases h8 : o % 8 = 0
    · have := h.ids (o / 8) (by omega)
      rw [show 8 * (o / 8) = o by omega] at this
      exact own_lt this k e
    · exact own_lt (h.cols o ho h8) k e
  obtain ⟨cs, hb, hc⟩ := h.blk
  exact ⟨⟨cs, (hk b (blk_lt hb) (by rw [h.owb]; omega)).trans hb, hc⟩, h.bb, h.bm, fun m hm => own_step (h.ids m hm) (fun k e => hlt _ k (by omega) e), fun o ho h8 => own_step (h.cols o ho h8) (fun k e => hlt o k ho e),
    h.own, h.owb, h.owm, h.map.congr (hk mb h.map.lt (by rw [h.owm]; omega))⟩
theorem Rep.below (h : Rep w base b mb sv I C f n ow) (hb : Below w.heap.size w w') : Rep w' base b mb sv I C f n ow := h.step (fun k hk _ => hb.block k hk)
theorem Rep.heap (h : Rep w base b mb sv I C f n ow) (e : w'.heap = w.heap) : Rep w' base b mb sv I C f n ow := h.step (fun k _ _ => by rw [e])
/-- A block of another type than the store's is none of the store's. -/
theorem Rep.far (h : Rep w base b mb sv I C f n ow) {g t : Nat} {cs : Array Value} (hg : w.heap[g]? = some (.cells cs t (0, 0))) (h1 : t ≠ 48) (h2 : t ≠ 3) (h3 : t ≠ 87) : g ≠ b ∧ g ≠ mb ∧ ∀ o, o < 256 → (sv o).ownBlock ≠ some g := by
  refine ⟨fun e => ?_, fun e => ?_, fun o ho e => ?_⟩
  · obtain ⟨cs', hb, _⟩ := h.blk
    rw [e] at hg; rw [hb] at hg
    simp at hg; exact h3 hg.2.symm
  · obtain ⟨D, ⟨es, clock, hm, _⟩, _⟩ := h.map
    rw [e] at hg; rw [hm] at hg
    simp at hg
  · by_cases h8 : o % 8 = 0
    · have := h.ids (o / 8) (by omega)
      rw [show 8 * (o / 8) = o by omega] at this
      exact own_ne this hg (fun e => h1 e.symm) e.symm
    · exact own_ne (h.cols o ho h8) hg (fun e => h2 e.symm) e.symm

theorem own_grown {w w' : World} {base : Nat} {e : TypeId} {size n : Nat} {v : Value} {xs : List Value} (h : w.ownsRow base e size v n xs) {row : Option Nat} (hg : w.grownBy w' row) (hne : ∀ k, v.ownBlock = some k → some k ≠ row) : w'.ownsRow base e size v n xs :=
  own_step h (fun k hk => hg.block k (own_lt h k hk) (hne k hk))

/-- The rows behind an append at o, and behind the store of what it gave into o's cell. -/
theorem Rep.rows (h : Rep w base b mb sv I C f n ow) {o g cap len : Nat} (ho : o < 256) {w1 : World} (hg : w.grownBy w1 (sv o).ownBlock) (hat : (sv o).ownBlock = some g ∨ g = w.heap.size) {v1 : Value} (hv1 : v1 = .slice (some ⟨g, 0, none⟩) len cap) :
    (∃ cs : Array Value, (w1.setCell ⟨b, o, none⟩ v1).heap[b]? = some (.cells cs 87 (0, 0)) ∧ (∀ p, p < 256 → cs[p]? = some (upd sv o v1 p)) ∧ cs[256]? = some (.map (some mb))) ∧
    (∀ {e size n : Nat} {xs : List Value} {v : Value}, w1.ownsRow base e size v n xs → (∀ k, v.ownBlock = some k → k ≠ b) → (w1.setCell ⟨b, o, none⟩ v1).ownsRow base e size v n xs) ∧
    (∀ p k, p < 256 → (upd sv o v1 p).ownBlock = some k → upd ow g o k = p) ∧ upd ow g o b = 256 ∧ upd ow g o mb = 257 ∧ g ≠ b ∧ g ≠ mb ∧
    PMap (w1.setCell ⟨b, o, none⟩ v1) mb n f ∧ (∀ p k, p < 256 → p ≠ o → (sv p).ownBlock = some k → some k ≠ (sv o).ownBlock ∧ k ≠ b) := by
  have hnb : ∀ p k, p < 256 → (sv p).ownBlock = some k → k ≠ b := fun p k hp e hk => by
    have := h.own p k hp e; rw [hk, h.owb] at this; omega
  have hnm : ∀ p k, p < 256 → (sv p).ownBlock = some k → k ≠ mb := fun p k hp e hk => by
    have := h.own p k hp e; rw [hk, h.owm] at this; omega
  have hgb : g ≠ b := by
    rcases hat with hat | hat
    · exact hnb o g ho hat
    · have := h.blt; omega
  have hgm : g ≠ mb := by
    rcases hat with hat | hat
    · exact hnm o g ho hat
    · have := h.map.lt; omega
  have hsep : ∀ p k, p < 256 → p ≠ o → (sv p).ownBlock = some k → some k ≠ (sv o).ownBlock ∧ k ≠ b := fun p k hp hne e =>
    ⟨fun he => hne ((h.own p k hp e).symm.trans (h.own o k ho he.symm)), hnb p k hp e⟩
  obtain ⟨cs, hb, hc, hcm⟩ := h.blk
  have hb1 : w1.heap[b]? = some (.cells cs 87 (0, 0)) := (hg.block b (blk_lt hb) (fun e => hnb o b ho e.symm rfl)).trans hb
  have hsz : 256 < cs.size := (Array.getElem?_eq_some_iff.1 hcm).1
  refine ⟨⟨_, blk_set hb1 o v1, fun p hp => ?_, ?_⟩, fun hr hk => ?_, fun p k hp e => ?_, ?_, ?_, hgb, hgm, ?_, hsep⟩
  · by_cases e : p = o
    · rw [e, upd_same]; exact Array.getElem?_setIfInBounds_self_of_lt (show o < cs.size by omega)
    · rw [upd_other _ e, Array.getElem?_setIfInBounds_ne (Ne.symm e)]; exact hc p hp
  · rw [Array.getElem?_setIfInBounds_ne (show o ≠ 256 by omega)]; exact hcm
  · exact own_setCell hr (fun e => hk b e.symm rfl) v1
  · by_cases hpo : p = o
    · subst hpo
      rw [upd_same, hv1] at e
      have : g = k := by simpa [Value.ownBlock] using e
      rw [← this, upd_same]
    · rw [upd_other _ hpo] at e
      have hkg : k ≠ g := fun hk => by
        rcases hat with hat | hat
        · exact (hsep p k hp hpo e).1 (by rw [hk, hat])
        · have : k < w.heap.size := by
            by_cases h8 : p % 8 = 0
            · have := h.ids (p / 8) (by omega)
              rw [show 8 * (p / 8) = p by omega] at this
              exact own_lt this k e
            · exact own_lt (h.cols p hp h8) k e
          omega
      rw [upd_other _ hkg]
      exact h.own p k hp e
  · rw [upd_other _ (Ne.symm hgb)]; exact h.owb
  · rw [upd_other _ (Ne.symm hgm)]; exact h.owm
  · have hm1 : PMap w1 mb n f := h.map.congr (hg.block mb h.map.lt (fun e => hnm o mb ho e.symm rfl))
    exact hm1.congr (Below.heap_setCell w1 ⟨b, o, none⟩ v1 mb (fun e => by have h1 := h.owb; have h2 := h.owm; rw [show mb = b from e, h1] at h2; omega))

theorem Rep.append_col (h : Rep w base b mb sv I C f n ow) {o g cap len : Nat} (ho : o < 256) (h8 : o % 8 ≠ 0) {w1 : World} (hg : w.grownBy w1 (sv o).ownBlock) (hat : (sv o).ownBlock = some g ∨ g = w.heap.size) {v1 : Value} (hv1 : v1 = .slice (some ⟨g, 0, none⟩) len cap) {l : List Int}
    (hown : w1.ownsRow base 3 1 v1 l.length (nums .i64 l)) : Rep (w1.setCell ⟨b, o, none⟩ v1) base b mb (upd sv o v1) I (upd C o l) f n (upd ow g o) := by
  obtain ⟨r1, r2, r3, r4, r5, r6, r7, r8, r9⟩ := h.rows ho hg hat hv1
  refine ⟨r1, h.bb, h.bm, fun m hm => ?_, fun p hp hp8 => ?_, r3, r4, r5, r8⟩
  · have hne : 8 * m ≠ o := by omega
    rw [upd_other _ hne]
    exact r2 (own_grown (h.ids m hm) hg (fun k e => (r9 _ k (by omega) hne e).1)) (fun k e => (r9 _ k (by omega) hne e).2)
  · by_cases e : p = o
    · subst e
      rw [upd_same, upd_same]
      exact r2 hown (fun k e => by rw [hv1] at e; have : g = k := by simpa [Value.ownBlock] using e
                                   rw [← this]; exact r6)
    · rw [upd_other _ e, upd_other _ e]
      exact r2 (own_grown (h.cols p hp hp8) hg (fun k ek => (r9 p k hp e ek).1)) (fun k ek => (r9 p k hp e ek).2)

theorem Rep.append_id (h : Rep w base b mb sv I C f n ow) {m g cap len : Nat} (hm : m < 32) {w1 : World} (hg : w.grownBy w1 (sv (8 * m)).ownBlock) (hat : (sv (8 * m)).ownBlock = some g ∨ g = w.heap.size) {v1 : Value} (hv1 : v1 = .slice (some ⟨g, 0, none⟩) len cap) {l : List TID}
    (hown : w1.ownsRow base 48 3 v1 l.length (idCells l)) : Rep (w1.setCell ⟨b, 8 * m, none⟩ v1) base b mb (upd sv (8 * m) v1) (upd I m l) C f n (upd ow g (8 * m)) := by
  obtain ⟨r1, r2, r3, r4, r5, r6, r7, r8, r9⟩ := h.rows (o := 8 * m) (by omega) hg hat hv1
  refine ⟨r1, h.bb, h.bm, fun p hp => ?_, fun p hp hp8 => ?_, r3, r4, r5, r8⟩
  · by_cases e : p = m
    · subst e
      rw [upd_same, upd_same]
      exact r2 hown (fun k e => by rw [hv1] at e; have : g = k := by simpa [Value.ownBlock] using e
                                   rw [← this]; exact r6)
    · rw [upd_other _ (show 8 * p ≠ 8 * m by omega), upd_other _ e]
      exact r2 (own_grown (h.ids p hp) hg (fun k ek => (r9 _ k (by omega) (by omega) ek).1)) (fun k ek => (r9 _ k (by omega) (by omega) ek).2)
  · have hne : p ≠ 8 * m := by omega
    rw [upd_other _ hne]
    exact r2 (own_grown (h.cols p hp hp8) hg (fun k e => (r9 _ k hp hne e).1)) (fun k e => (r9 _ k hp hne e).2)
/-- The map is another one. -/
theorem Rep.turned (h : Rep w base b mb sv I C f n ow) {f' : TID → Option (Int × Int)} {n' : Nat} (hm : PMap w' mb n' f') (ht : w.mapTurned w' mb) : Rep w' base b mb sv I C f' n' ow := by
  have hk : ∀ k, k < w.heap.size → k ≠ mb → w'.heap[k]? = w.heap[k]? := fun k hk hne => ht.grown.block k hk (fun e => hne (by simpa using e))
  have hlt : ∀ o k, o < 256 → (sv o).ownBlock = some k → w'.heap[k]? = w.heap[k]? := fun o k ho e => by
    refine hk k ?_ (fun hm => by have := h.own o k ho e; rw [hm, h.owm] at this; omega)
    by_cases h8 : o % 8 = 0
    · have := h.ids (o / 8) (by omega)
      rw [show 8 * (o / 8) = o by omega] at this
      exact own_lt this k e
    · exact own_lt (h.cols o ho h8) k e
  obtain ⟨cs, hb, hc⟩ := h.blk
  have hbm : b ≠ mb := fun e => by have h1 := h.owb; rw [e, h.owm] at h1; omega
  exact ⟨⟨cs, (hk b (blk_lt hb) hbm).trans hb, hc⟩, h.bb, h.bm, fun m hm => own_step (h.ids m hm) (fun k e => hlt _ k (by omega) e), fun o ho h8 => own_step (h.cols o ho h8) (fun k e => hlt o k ho e),
    h.own, h.owb, h.owm, hm⟩
end
end Go.Proofs.Ythcgiacjmfmamaa.PA

namespace Go.Proofs.Ythcgiacjmfmamaa.PA
set_option linter.unusedVariables false
set_option linter.unusedSimpArgs false
open Go.RowKit Go.Proofs.YthcgiacjmfmamaaW.PrintWords
/-- Such objects a store is made of: what is of another kind is none of a store's. -/
def shelf : Obj → Bool
  | .map _ _ => true
  | .cells _ t _ => t == 48 || t == 3 || t == 87
  | _ => false
/-- Below base nothing has turned; of the rest, nothing that can be no part of a store. -/
structure Keeps (base : Nat) (w w' : World) : Prop where
  below : Below base w w'
  kept : ∀ (k : Nat) (o : Obj), w.heap[k]? = some o → shelf o = false → w'.heap[k]? = some o
section
variable {base : Nat} {w w1 w2 : World}
theorem Keeps.refl (base : Nat) (w : World) : Keeps base w w := ⟨Below.refl _ _, fun _ _ h _ => h⟩
theorem Keeps.of_below (hs : base ≤ w.heap.size) (h : Below w.heap.size w w1) : Keeps base w w1 :=
  ⟨h.mono hs, fun k _ ho _ => (h.block k (blk_lt ho)).trans ho⟩
theorem Keeps.grown (h : Keeps base w w1) (hs : base ≤ w1.heap.size) {row : Option Nat} (hg : w1.grownBy w2 row) (hr : ∀ k, row = some k → base ≤ k ∧ ∀ o, w1.heap[k]? = some o → shelf o = true) : Keeps base w w2 := by
  refine ⟨h.below.grown hg hs (fun k hk => (hr k hk).1), fun k o ho hsh => ?_⟩
  have h1 := h.kept k o ho hsh
  rw [hg.block k (blk_lt h1) (fun e => by have := (hr k e.symm).2 o h1; rw [this] at hsh; cases hsh)]
  exact h1
theorem Keeps.trans (h : Keeps base w w1) (h' : Keeps base w1 w2) (hs : base ≤ w.heap.size) : Keeps base w w2 :=
  ⟨⟨h'.below.os.trans h.below.os, h'.below.tape.trans h.below.tape, h'.below.output.trans h.below.output, Nat.le_trans h.below.size h'.below.size, fun k hk => (h'.below.block k hk).trans (h.below.block k hk)⟩, fun k o ho hsh => h'.kept k o (h.kept k o ho hsh) hsh⟩
theorem Keeps.alloc (h : Keeps base w w1) (hs : base ≤ w1.heap.size) (o : Obj) : Keeps base w (w1.alloc o) := h.grown hs (World.grownBy_alloc w1 o none) (fun _ e => by cases e)
theorem Keeps.drew (h : Keeps base w w1) : Keeps base w w1.drew := ⟨below_drew h.below, h.kept⟩
theorem Keeps.drewN (h : Keeps base w w1) (n : Nat) : Keeps base w (w1.drewN n) := ⟨pw_below_drewN h.below n, h.kept⟩
theorem grownBy_set (w : World) (p : Addr) (v : Value) : w.grownBy (w.setCell p v) (some p.block) :=
  ⟨rfl, rfl, rfl, by simp, fun k _ hk => Below.heap_setCell w p v k (fun e => hk (by rw [e]))⟩
theorem Keeps.set (h : Keeps base w w1) (hs : base ≤ w1.heap.size) {b i t : Nat} {cs : Array Value} {fr : Nat × Nat} (hb : w1.heap[b]? = some (.cells cs t fr)) (hbb : base ≤ b) (ht : t = 48 ∨ t = 3 ∨ t = 87) (v : Value) : Keeps base w (w1.setCell ⟨b, i, none⟩ v) :=
  h.grown hs (grownBy_set w1 _ v) (fun k e => by
    have e : b = k := by simpa using e
    subst e
    refine ⟨hbb, fun o ho => ?_⟩
    rw [hb] at ho
    cases ho
    rcases ht with rfl | rfl | rfl <;> rfl)
theorem Keeps.size (h : Keeps base w w1) : w.heap.size ≤ w1.heap.size := h.below.size
end
theorem Rep.row_shelf {w : World} {base b mb : Nat} {sv : Nat → Value} {I : Nat → List TID} {C : Nat → List Int} {f : TID → Option (Int × Int)} {n : Nat} {ow : Nat → Nat} (h : Rep w base b mb sv I C f n ow) {o : Nat} (ho : o < 256) :
    ∀ k, (sv o).ownBlock = some k → base ≤ k ∧ ∀ x, w.heap[k]? = some x → shelf x = true := by
  intro k hk
  by_cases h8 : o % 8 = 0
  · have hr := h.ids (o / 8) (by omega)
    rw [show 8 * (o / 8) = o by omega] at hr
    rcases hr.2 with ⟨e, _⟩ | ⟨g, cap, cur, e, hb, hg, _⟩
    · rw [e] at hk; cases hk
    · rw [e] at hk
      have : g = k := by simpa [Value.ownBlock] using hk
      subst this
      exact ⟨hb, fun x hx => by rw [hg] at hx; cases hx; rfl⟩
  · rcases (h.cols o ho h8).2 with ⟨e, _⟩ | ⟨g, cap, cur, e, hb, hg, _⟩
    · rw [e] at hk; cases hk
    · rw [e] at hk
      have : g = k := by simpa [Value.ownBlock] using hk
      subst this
      exact ⟨hb, fun x hx => by rw [hg] at hx; cases hx; rfl⟩
theorem PMap.store_fn {w : World} {mb n : Nat} {f : TID → Option (Int × Int)} (h : PMap w mb n f) (x : TID) (hx : wfID x) (p : Int × Int) (hn : n < maxLen) :
    ∃ U : World → World, ∀ W, W.heap[mb]? = w.heap[mb]? → (Instr.mapUpdate 85 (.map (some mb)) (idV x) (placeV p)).run Try.prog W = .ok () (U W) ∧ PMap (U W) mb (if (f x).isSome then n else n + 1) (fset f x (some p)) ∧ W.mapTurned (U W) mb := by
  refine (Classical.skolem (p := fun (W w' : World) => W.heap[mb]? = w.heap[mb]? → (Instr.mapUpdate 85 (.map (some mb)) (idV x) (placeV p)).run Try.prog W = .ok () w' ∧ PMap w' mb (if (f x).isSome then n else n + 1) (fset f x (some p)) ∧ W.mapTurned w' mb)).1 (fun W => ?_)
  by_cases hW : W.heap[mb]? = w.heap[mb]?
  · obtain ⟨w', h'⟩ := (h.congr hW).store x hx p hn
    exact ⟨w', fun _ => h'⟩
  · exact ⟨W, fun hh => absurd hh hW⟩
theorem PMap.drop_fn {w : World} {mb n : Nat} {f : TID → Option (Int × Int)} (h : PMap w mb n f) (x : TID) (hx : wfID x) (hfx : (f x).isSome = true) (ty : TypeId) :
    ∃ U : World → World, ∀ W, W.heap[mb]? = w.heap[mb]? → (Builtin.delete_ #[85, 48] ty #[.map (some mb), idV x]).run Try.prog W = .ok (.tuple #[]) (U W) ∧ PMap (U W) mb (n - 1) (fset f x none) ∧ W.mapTurned (U W) mb := by
  refine (Classical.skolem (p := fun (W w' : World) => W.heap[mb]? = w.heap[mb]? → (Builtin.delete_ #[85, 48] ty #[.map (some mb), idV x]).run Try.prog W = .ok (.tuple #[]) w' ∧ PMap w' mb (n - 1) (fset f x none) ∧ W.mapTurned w' mb)).1 (fun W => ?_)
  by_cases hW : W.heap[mb]? = w.heap[mb]?
  · obtain ⟨w', h'⟩ := (h.congr hW).drop x hx hfx ty
    exact ⟨w', fun _ => h'⟩
  · exact ⟨W, fun hh => absurd hh hW⟩
def cellsB (x : TB) : Array Value := #[.int .i64 x.f0.f0, .int .i64 x.f0.f1, .int .i64 x.f0.f2, .int .i64 x.f1, .int .i64 x.f2, .int .i64 x.f3, .int .i64 x.f4, .int .i64 x.f5, .int .i64 x.f6, .int .i64 x.f7, .int .i64 x.f8]
def bunV (x : TB) : Value := .agg (cellsB x)
/-- The j-th of a bundle's numbers. -/
def numB (x : TB) : Nat → Int
  | 0 => x.f2
  | 1 => x.f3
  | 2 => x.f4
  | 3 => x.f5
  | 4 => x.f6
  | 5 => x.f7
  | _ => x.f8
/-- A slice of the call's own blocks: the numbers of a bundle. -/
theorem numbers_x (w : World) (a0 a1 a2 a3 a4 a5 a6 a7 a8 a9 a10 : Int) :
    Calls Try.prog 70 #[.agg #[.int .i64 a0, .int .i64 a1, .int .i64 a2, .int .i64 a3, .int .i64 a4, .int .i64 a5, .int .i64 a6, .int .i64 a7, .int .i64 a8, .int .i64 a9, .int .i64 a10]] w fun e w' =>
     e = .returned (.slice (some ⟨w.heap.size + 1, 0, none⟩) 7 7) ∧ w' = ((w.alloc (.cells #[.int .i64 a0, .int .i64 a1, .int .i64 a2, .int .i64 a3, .int .i64 a4, .int .i64 a5, .int .i64 a6, .int .i64 a7, .int .i64 a8, .int .i64 a9, .int .i64 a10] 51)).alloc (.cells #[.int .i64 a4, .int .i64 a5, .int .i64 a6, .int .i64 a7, .int .i64 a8, .int .i64 a9, .int .i64 a10] 3)) := by
  go_enter Try.func70, Try.ntmps70
  go_wp2
  go_ret
  exact ⟨rfl, rfl⟩
theorem columns_x (b o : Nat) (w : World) (c : Value) (hc : w.cell? ⟨b, o, none⟩ = some c) :
    Calls Try.prog 69 #[.pointer (some ⟨b, o, none⟩)] w fun e w' => e = .returned (.slice (some ⟨w.heap.size, 0, none⟩) 7 7) ∧
      w' = (w.alloc (.cells #[.pointer (some ⟨b, o + 1, none⟩), .pointer (some ⟨b, o + 2, none⟩), .pointer (some ⟨b, o + 3, none⟩), .pointer (some ⟨b, o + 4, none⟩), .pointer (some ⟨b, o + 5, none⟩), .pointer (some ⟨b, o + 6, none⟩), .pointer (some ⟨b, o + 7, none⟩)] 104)).drew := by
  go_enter Try.func69, Try.ntmps69
  go_wp2
  go_region
  go_wp2
  go_ret
  exact ⟨rfl, rfl⟩
theorem has_x (b mb n : Nat) (x : TID) (f : TID → Option (Int × Int)) (w : World) (hx : wfID x) (hc : w.cell? ⟨b, 256, none⟩ = some (.map (some mb))) (hm : PMap w mb n f) :
    Calls Try.prog 50 #[.pointer (some ⟨b, 0, none⟩), idV x] w fun e w' => e = .returned (.bool (f x).isSome) ∧ Below w.heap.size w w' := by
  have hb : b < w.heap.size := World.block_lt_of_cell? w _ hc
  have hl : ∀ W : World, W.heap[mb]? = w.heap[mb]? → (Instr.lookup 85 (.map (some mb)) (.agg #[.int .i64 x.f0, .int .i64 x.f1, .int .i64 x.f2]) true).run Try.prog W = .ok (.tuple #[.agg #[.int .i64 ((f x).getD (0,0)).1, .int .i64 ((f x).getD (0,0)).2], .bool (f x).isSome]) W := fun W h => (hm.congr h).look x hx
  have hmb := hm.lt
  have hl1 := fun o => hl (w.alloc o).drew (heap_old w o mb hmb)
  have hl2 := fun o o' => hl ((w.alloc o).alloc o').drew ((heap_old (w.alloc o) o' mb (by simp; omega)).trans (heap_old w o mb hmb))
  clear hm hl
  unfold idV
  go_enter Try.func50, Try.ntmps50
  go_wp2
  go_region
  go_wp2
  go_ret
  exact ⟨rfl, by repeat (first | exact Below.refl _ _ | apply below_alloc | apply below_drew)⟩
theorem zeros_store : Try.zeroCells87 = ((List.replicate 256 (Value.slice none 0 0)) ++ [Value.map none]).toArray := by kernel_rfl
theorem zeros_at (o : Nat) (ho : o < 256) (v : Value) : (Try.zeroCells87.setIfInBounds 256 v)[o]? = some (.slice none 0 0) := by
  rw [zeros_store, Array.getElem?_setIfInBounds_ne (by omega), List.getElem?_toArray, List.getElem?_append_left (by rw [List.length_replicate]; exact ho), List.getElem?_replicate, if_pos ho]
theorem zeros_map (v : Value) : (Try.zeroCells87.setIfInBounds 256 v)[256]? = some v := by
  rw [zeros_store]
  exact Array.getElem?_setIfInBounds_self_of_lt (by rw [List.size_toArray, List.length_append, List.length_replicate]; exact Nat.lt_succ_self 256)
/-- A new store has nothing. -/
theorem new_x (w : World) : Calls Try.prog 34 #[] w fun e w' => ∃ b, e = .returned (.pointer (some ⟨b, 0, none⟩)) ∧ Below w.heap.size w w' ∧
    ∃ mb ow, Rep w' w.heap.size b mb (fun _ => .slice none 0 0) (fun _ => []) (fun _ => []) (fun _ => none) 0 ow := by
  have hmm := @run_makeMap Try.prog
  go_enter Try.func34, Try.ntmps34
  go_wp2
  go_ret
  refine ⟨w.heap.size + 1, rfl, by repeat (first | exact Below.refl _ _ | apply below_alloc), w.heap.size, fun k => if k = w.heap.size + 1 then 256 else if k = w.heap.size then 257 else 300, ?_⟩
  refine ⟨⟨_, by have := heap_alloc_new (w.alloc (Obj.map #[] 0)) (Obj.cells (Try.zeroCells87.setIfInBounds 256 (Value.map (some w.heap.size))) 87); rw [World.size_alloc] at this; exact this, fun o ho => zeros_at o ho _, zeros_map _⟩, by omega, by omega, fun m _ => own_nil _ _ _ _, fun o _ _ => own_nil _ _ _ _, (fun o k _ e => by cases e), (by simp), (by simp), ?_⟩
  exact (PMap.made w).congr (heap_old _ _ _ (by simp))
end Go.Proofs.Ythcgiacjmfmamaa.PA

namespace Go.Proofs.Ythcgiacjmfmamaa.PA
set_option linter.unusedVariables false
set_option linter.unusedSimpArgs false
open Go.RowKit Go.Proofs.YthcgiacjmfmamaaW.PrintWords
section
variable {W W' w1 : World} {base b mb : Nat} {sv : Nat → Value} {I : Nat → List TID} {C : Nat → List Int} {f : TID → Option (Int × Int)} {n : Nat} {ow : Nat → Nat}
theorem keeps_append (R : Rep W base b mb sv I C f n ow) (hbase : base ≤ W.heap.size) (hW : Below W.heap.size W W') {o gg : Nat} (ho : o < 256) (hg : W'.grownBy w1 (sv o).ownBlock) (v1 : Value) : Keeps base W (w1.setCell ⟨b, o, none⟩ v1) := by
  have K1 : Keeps base W W' := Keeps.of_below hbase hW
  have R' : Rep W' base b mb sv I C f n ow := R.below hW
  have hs' : base ≤ W'.heap.size := Nat.le_trans hbase hW.size
  have K2 : Keeps base W w1 := K1.grown hs' hg (R'.row_shelf ho)
  obtain ⟨cs, hb, _⟩ := R'.blk
  have hbo : some b ≠ (sv o).ownBlock := fun e => by have := R'.own o b ho e.symm; rw [R'.owb] at this; omega
  exact K2.set (Nat.le_trans hs' hg.size) ((hg.block b (blk_lt hb) hbo).trans hb) R'.bb (.inr (.inr rfl)) v1
theorem after_id (R : Rep W base b mb sv I C f n ow) (hbase : base ≤ W.heap.size) (hW : Below W.heap.size W W') {m gg cap : Nat} (hm : m < 32) {x : TID} (hg : W'.grownBy w1 (sv (8 * m)).ownBlock) (hat : (sv (8 * m)).ownBlock = some gg ∨ gg = W'.heap.size)
    (hown : w1.ownsRow base 48 3 (.slice (some ⟨gg, 0, none⟩) ((I m).length + 1) cap) ((I m).length + 1) (idCells (I m) ++ [.int .i64 x.f0, .int .i64 x.f1, .int .i64 x.f2])) :
    (∃ sv' ow', Rep (w1.setCell ⟨b, 8 * m, none⟩ (.slice (some ⟨gg, 0, none⟩) ((I m).length + 1) cap)) base b mb sv' (upd I m (I m ++ [x])) C f n ow') ∧ Keeps base W (w1.setCell ⟨b, 8 * m, none⟩ (.slice (some ⟨gg, 0, none⟩) ((I m).length + 1) cap)) := by
  refine ⟨⟨_, _, (R.below hW).append_id hm hg hat rfl ?_⟩, keeps_append R hbase hW (gg := gg) (by omega) hg _⟩
  rw [idCells_append, List.length_append]
  exact hown
theorem after_col (R : Rep W base b mb sv I C f n ow) (hbase : base ≤ W.heap.size) (hW : Below W.heap.size W W') {o gg cap : Nat} (ho : o < 256) (h8 : o % 8 ≠ 0) {x : Int} (hg : W'.grownBy w1 (sv o).ownBlock) (hat : (sv o).ownBlock = some gg ∨ gg = W'.heap.size)
    (hown : w1.ownsRow base 3 1 (.slice (some ⟨gg, 0, none⟩) ((C o).length + 1) cap) ((C o).length + 1) (nums .i64 (C o) ++ [.int .i64 x])) :
    (∃ sv' ow', Rep (w1.setCell ⟨b, o, none⟩ (.slice (some ⟨gg, 0, none⟩) ((C o).length + 1) cap)) base b mb sv' I (upd C o (C o ++ [x])) f n ow') ∧ Keeps base W (w1.setCell ⟨b, o, none⟩ (.slice (some ⟨gg, 0, none⟩) ((C o).length + 1) cap)) := by
  refine ⟨⟨_, _, (R.below hW).append_col ho h8 hg hat rfl ?_⟩, keeps_append R hbase hW (gg := gg) ho hg _⟩
  rw [nums_append, List.length_append]
  exact hown
end
/-- The columns behind k rounds. -/
def Cadd (C : Nat → List Int) (m : Nat) (x : TB) (k : Nat) : Nat → List Int := fun o => if m * 8 + 1 ≤ o ∧ o < m * 8 + 1 + k then C o ++ [numB x (o - (m * 8 + 1))] else C o
theorem Cadd_zero (C : Nat → List Int) (m : Nat) (x : TB) : Cadd C m x 0 = C := by
  funext o
  unfold Cadd
  rw [if_neg (by omega)]
theorem Cadd_at (C : Nat → List Int) (m : Nat) (x : TB) (k : Nat) : Cadd C m x k (m * 8 + 1 + k) = C (m * 8 + 1 + k) := by
  unfold Cadd
  rw [if_neg (by omega)]
theorem Cadd_succ (C : Nat → List Int) (m : Nat) (x : TB) (k : Nat) : upd (Cadd C m x k) (m * 8 + 1 + k) (C (m * 8 + 1 + k) ++ [numB x k]) = Cadd C m x (k + 1) := by
  funext o
  unfold upd Cadd
  by_cases e : o = m * 8 + 1 + k
  · rw [if_pos e, if_pos (by omega), e, show m * 8 + 1 + k - (m * 8 + 1) = k by omega]
  · rw [if_neg e]
    by_cases h : m * 8 + 1 ≤ o ∧ o < m * 8 + 1 + k
    · rw [if_pos h, if_pos (by omega)]
    · rw [if_neg h, if_neg (by omega)]
theorem col_ptr (b o k : Nat) (hk : k < 7) : (#[Value.pointer (some ⟨b, o + 1, none⟩), .pointer (some ⟨b, o + 2, none⟩), .pointer (some ⟨b, o + 3, none⟩), .pointer (some ⟨b, o + 4, none⟩), .pointer (some ⟨b, o + 5, none⟩), .pointer (some ⟨b, o + 6, none⟩), .pointer (some ⟨b, o + 7, none⟩)] : Array Value)[k]? = some (.pointer (some ⟨b, o + 1 + k, none⟩)) := by
  match k, hk with
  | 0, _ => rfl
  | 1, _ => rfl
  | 2, _ => rfl
  | 3, _ => rfl
  | 4, _ => rfl
  | 5, _ => rfl
  | 6, _ => rfl
theorem num_at (x : TB) (k : Nat) (hk : k < 7) : (#[Value.int .i64 x.f2, .int .i64 x.f3, .int .i64 x.f4, .int .i64 x.f5, .int .i64 x.f6, .int .i64 x.f7, .int .i64 x.f8] : Array Value)[k]? = some (.int .i64 (numB x k)) := by
  match k, hk with
  | 0, _ => rfl
  | 1, _ => rfl
  | 2, _ => rfl
  | 3, _ => rfl
  | 4, _ => rfl
  | 5, _ => rfl
  | 6, _ => rfl
set_option maxRecDepth 100000 in
set_option maxHeartbeats 3200000 in
theorem add_x (w : World) {base b mb : Nat} {sv : Nat → Value} {I : Nat → List TID} {C : Nat → List Int} {f : TID → Option (Int × Int)} {n : Nat} {ow : Nat → Nat} (h : Rep w base b mb sv I C f n ow) (hbase : base ≤ w.heap.size)
   (x : TB) (m : Nat) (hm : m < 32) (hx : wfID x.f0) (hn : n < maxLen) (hf : f x.f0 = none) (hI : (I m).length < 1000000) (hC : ∀ o, (C o).length < 1000000) :
    Calls Try.prog 56 #[.pointer (some ⟨b, 0, none⟩), .agg #[.int .i64 x.f0.f0, .int .i64 x.f0.f1, .int .i64 x.f0.f2, .int .i64 m, .int .i64 x.f2, .int .i64 x.f3, .int .i64 x.f4, .int .i64 x.f5, .int .i64 x.f6, .int .i64 x.f7, .int .i64 x.f8]] w fun e w' => e = .returned (.tuple #[]) ∧ Keeps base w w' ∧
      ∃ sv' ow', Rep w' base b mb sv' (upd I m (I m ++ [x.f0])) (Cadd C m x 7) (fset f x.f0 (some (m, (I m).length))) (n + 1) ow' := by
  have hb := h.blt
  have hc := h.mcell
  obtain ⟨A, c, hv⟩ : ∃ A c, sv (8 * m) = .slice A (I m).length c := own_slice (h.ids m hm)
  have hci : w.cell? ⟨b, m * 8, none⟩ = some (.slice A (I m).length c) := by rw [Nat.mul_comm m 8]; exact (h.cell (8 * m) (by omega)).trans (by rw [hv])
  have hmb := h.map.lt
  obtain ⟨W1, hrun, R1, hbx, K1⟩ : ∃ W1, (Instr.mapUpdate 85 (.map (some mb)) (.agg #[.int .i64 x.f0.f0, .int .i64 x.f0.f1, .int .i64 x.f0.f2]) (.agg #[.int .i64 m, .int .i64 (I m).length])).run Try.prog (w.alloc (.cells #[.int .i64 x.f0.f0, .int .i64 x.f0.f1, .int .i64 x.f0.f2, .int .i64 m, .int .i64 x.f2, .int .i64 x.f3, .int .i64 x.f4, .int .i64 x.f5, .int .i64 x.f6, .int .i64 x.f7, .int .i64 x.f8] 51)).drew.drew = .ok () W1 ∧
      Rep W1 base b mb sv I C (fset f x.f0 (some (m, (I m).length))) (n + 1) ow ∧ W1.heap[w.heap.size]? = some (.cells #[.int .i64 x.f0.f0, .int .i64 x.f0.f1, .int .i64 x.f0.f2, .int .i64 m, .int .i64 x.f2, .int .i64 x.f3, .int .i64 x.f4, .int .i64 x.f5, .int .i64 x.f6, .int .i64 x.f7, .int .i64 x.f8] 51 (0, 0)) ∧ Keeps base w W1 := by
    have R0 : Rep (w.alloc (.cells #[.int .i64 x.f0.f0, .int .i64 x.f0.f1, .int .i64 x.f0.f2, .int .i64 m, .int .i64 x.f2, .int .i64 x.f3, .int .i64 x.f4, .int .i64 x.f5, .int .i64 x.f6, .int .i64 x.f7, .int .i64 x.f8] 51)).drew.drew base b mb sv I C f n ow := h.below (by repeat (first | exact Below.refl _ _ | apply below_alloc | apply below_drew))
    obtain ⟨W1, hrun, hp, ht⟩ := R0.map.store x.f0 hx (m, (I m).length) hn
    rw [hf] at hp
    have K0 : Keeps base w (w.alloc (.cells #[.int .i64 x.f0.f0, .int .i64 x.f0.f1, .int .i64 x.f0.f2, .int .i64 m, .int .i64 x.f2, .int .i64 x.f3, .int .i64 x.f4, .int .i64 x.f5, .int .i64 x.f6, .int .i64 x.f7, .int .i64 x.f8] 51)).drew.drew := ((Keeps.refl base w).alloc hbase _).drew.drew
    refine ⟨W1, hrun, R0.turned hp ht, ?_, ?_⟩
    · exact (ht.grown.block _ (by show _ < (w.alloc _).heap.size; simp) (fun e => by cases e; omega)).trans (heap_alloc_new w _)
    · refine K0.grown (by show _ ≤ (w.alloc _).heap.size; simp; omega) ht.grown (fun k e => ?_)
      cases e
      refine ⟨R0.bm, fun o ho => ?_⟩
      obtain ⟨D, ⟨es, clock, hm, _⟩, _⟩ := R0.map
      rw [hm] at ho; cases ho; rfl
  have hlo : (0 : Int) ≤ (m : Int) := by omega
  have hhi : (m : Int) < 32 := by omega
  have hb1 := R1.blt
  have hc1 : W1.cell? ⟨b, m * 8, none⟩ = some (.slice A (I m).length c) := by rw [Nat.mul_comm m 8]; exact (R1.cell (8 * m) (by omega)).trans (by rw [hv])
  have hz1 := R1.frozen (m * 8)
  have hx0 := blk_cell hbx 0
  have hx1 := blk_cell hbx 1
  have hx2 := blk_cell hbx 2
  have hsz1 := blk_lt hbx
  simp only [List.getElem?_toArray, List.getElem?_cons_zero, List.getElem?_cons_succ] at hx0 hx1 hx2
  have hown := R1.ids m hm
  rw [hv] at hown
  have hbase1 : base ≤ W1.heap.size := Nat.le_trans hbase K1.size
  obtain ⟨i0, hi0, hzz0, hzz1, hzz2⟩ := info_parts info48
  have ownb : (Value.slice A (I m).length c).ownBlock ≠ some b := fun e => by
    have := R1.own (8 * m) b (by omega) (by rw [hv]; exact e)
    rw [R1.owb] at this; omega
  clear h
  go_enter Try.func56, Try.ntmps56
  have Hv := Aside0.mk hv
  clear hv
  go_wp2
  go_region
  go_wp2
  go_region
  go_wp2
  go_cut [] (fun wc => ∃ sv' ow', Rep wc base b mb sv' (upd I m (I m ++ [x.f0])) C (fset f x.f0 (some (m, (I m).length))) (n + 1) ow' ∧ Keeps base W1 wc)
  case first =>
    go_region_law
      ((refine step_append_lies _ (by rfl) _ _ _ (by rfl) base 48 i0 _ 3 24 Try.underlying36 hi0 hzz0 hzz1 hzz2 rfl (by omega) (.slice A (I m).length c) (I m).length (idCells (I m)) (by rfl) ((hown.alloc _).drew)
          ⟨W1.heap.size, 0, none⟩ 1 1 [.int .i64 x.f0.f0, .int .i64 x.f0.f1, .int .i64 x.f0.f2] (by rfl) (by rfl) (World.news_of_block (cs := #[.int .i64 x.f0.f0, .int .i64 x.f0.f1, .int .i64 x.f0.f2]) (t := 48) (fr := (0, 0)) (heap_alloc_new W1 _)) (by simp [Value.oneCell'])
          (by omega) (by unfold maxLen; omega) (by omega) (by simp; omega) (W1.heap.size + 1) (by simp) ?_; intro gg cap w1 hown1 hgrow hat hlt; have hz2 : w1.frozen? ⟨b, m * 8, none⟩ = false := (hgrow.frozen_far ⟨b, m * 8, none⟩ (by simp; omega) (Ne.symm ownb)).trans ((World.frozen?_alloc_old W1 _ ⟨b, m * 8, none⟩ (Nat.ne_of_lt hb1)).trans hz1); have hc2 : w1.cell? ⟨b, m * 8, none⟩ = some (.slice A (I m).length c) := (hgrow.cell_far ⟨b, m * 8, none⟩ (by simp; omega) (Ne.symm ownb)).trans (by go_keep)))
    all_goals (go_wp2; go_meet)
    all_goals
      rw [← Hv.out] at hgrow hat
      rw [Nat.mul_comm m 8]
      obtain ⟨⟨sv', ow', hr⟩, hk⟩ := after_id R1 hbase1 (by repeat (first | exact Below.refl _ _ | apply below_alloc | apply below_drew)) hm hgrow (by simpa using hat) hown1
      exact ⟨sv', ow', hr, hk⟩
  case rest =>
    obtain ⟨sv2, ow2, R2, K2⟩ := hcut
    have hcb := R2.cell (m * 8) (by omega)
    go_wp2_with (go_at_call 69; refine (columns_x b (m * 8) _ _ hcb).mono ?_; rintro e w' ⟨rfl, rfl⟩)
    have hbw : wc.heap[w.heap.size]? = some (.cells #[.int .i64 x.f0.f0, .int .i64 x.f0.f1, .int .i64 x.f0.f2, .int .i64 m, .int .i64 x.f2, .int .i64 x.f3, .int .i64 x.f4, .int .i64 x.f5, .int .i64 x.f6, .int .i64 x.f7, .int .i64 x.f8] 51 (0, 0)) := K2.kept _ _ hbx rfl
    clear hx0 hx1 hx2 hown hz1 hc1 hci ownb hcb hrun hbx hbase1 hsz1 R1 hb1 hb hc hmb
    have hK2 := K1.trans K2 hbase
    clear K1 K2
    have hbase2 : base ≤ wc.heap.size := Nat.le_trans hbase hK2.size
    obtain ⟨W2, hW2⟩ : ∃ W2, W2 = (wc.alloc (.cells #[.pointer (some ⟨b, m * 8 + 1, none⟩), .pointer (some ⟨b, m * 8 + 2, none⟩), .pointer (some ⟨b, m * 8 + 3, none⟩), .pointer (some ⟨b, m * 8 + 4, none⟩), .pointer (some ⟨b, m * 8 + 5, none⟩), .pointer (some ⟨b, m * 8 + 6, none⟩), .pointer (some ⟨b, m * 8 + 7, none⟩)] 104)).drew := ⟨_, rfl⟩
    rw [← hW2]
    have hcol : W2.heap[wc.heap.size]? = some (.cells #[.pointer (some ⟨b, m * 8 + 1, none⟩), .pointer (some ⟨b, m * 8 + 2, none⟩), .pointer (some ⟨b, m * 8 + 3, none⟩), .pointer (some ⟨b, m * 8 + 4, none⟩), .pointer (some ⟨b, m * 8 + 5, none⟩), .pointer (some ⟨b, m * 8 + 6, none⟩), .pointer (some ⟨b, m * 8 + 7, none⟩)] 104 (0, 0)) := by rw [hW2]; exact heap_alloc_new wc _
    have hbW : Below wc.heap.size wc W2 := by rw [hW2]; repeat (first | exact Below.refl _ _ | apply below_alloc | apply below_drew)
    have R2' := R2.below hbW
    have hK2' := hK2.trans (Keeps.of_below hbase2 hbW) hbase
    have hbx2 : W2.heap[w.heap.size]? = some (.cells #[.int .i64 x.f0.f0, .int .i64 x.f0.f1, .int .i64 x.f0.f2, .int .i64 m, .int .i64 x.f2, .int .i64 x.f3, .int .i64 x.f4, .int .i64 x.f5, .int .i64 x.f6, .int .i64 x.f7, .int .i64 x.f8] 51 (0, 0)) := (hbW.block _ (blk_lt hbw)).trans hbw
    have hbaseW : base ≤ W2.heap.size := Nat.le_trans hbase2 hbW.size
    generalize hkb : wc.heap.size = kb at hcol ⊢
    clear hW2 R2 hK2 hbw hbW hkb hbase2 hlo hhi
    obtain ⟨i1, hi1, hy0, hy1, hy2⟩ := info_parts info3
    go_loopg [41] 7 (fun gq v41 wr => ∃ k : Nat, v41 = .int .i64 k ∧ k + gq = 7 ∧ ∃ sv' ow', Rep wr base b mb sv' (upd I m (I m ++ [x.f0])) (Cadd C m x k) (fset f x.f0 (some (m, (I m).length))) (n + 1) ow' ∧ Keeps base W2 wr)
    case atStart => exact ⟨0, rfl, rfl, sv2, ow2, by rw [Cadd_zero]; exact R2', Keeps.refl _ _⟩
    case round =>
      obtain ⟨k, rfl, hk, sv', ow', R, K⟩ := hrel
      cases gk with
      | zero =>
        have hk7 : k = 7 := by omega
        subst hk7
        go_wp2
        go_end0
        exact ⟨rfl, hK2'.trans K hbase, sv', ow', R⟩
      | succ g =>
        have hk7 : (k : Int) < 7 := by omega
        have hk0 : (0 : Int) ≤ (k : Int) := by omega
        have hkn : k < 7 := by omega
        have hcc := (blk_cell (K.kept _ _ hcol rfl) k).trans (col_ptr b (m * 8) k hkn)
        have hbr := K.kept _ _ hbx2 rfl
        obtain ⟨ho, ho8⟩ : m * 8 + 1 + k < 256 ∧ (m * 8 + 1 + k) % 8 ≠ 0 := by omega
        have hCk : Cadd C m x k (m * 8 + 1 + k) = C (m * 8 + 1 + k) := Cadd_at C m x k
        have hrow := R.cols (m * 8 + 1 + k) ho ho8
        rw [hCk] at hrow
        obtain ⟨A1, c1, hv1⟩ := own_slice hrow
        have hcr : wr.cell? ⟨b, m * 8 + 1 + k, none⟩ = some (.slice A1 (C (m * 8 + 1 + k)).length c1) := (R.cell _ ho).trans (by rw [hv1])
        have hcr3 := fun o1 o2 o3 => pw_cell_below (w := wr) (w1 := ((wr.alloc o1).alloc o2).alloc o3) (by repeat (first | exact Below.refl _ _ | apply below_alloc | apply below_drew)) hcr
        have hcr2 := fun o1 o2 => pw_cell_below (w := wr) (w1 := (wr.alloc o1).alloc o2) (by repeat (first | exact Below.refl _ _ | apply below_alloc | apply below_drew)) hcr
        have hzr := R.frozen (m * 8 + 1 + k)
        rw [hv1] at hrow
        have ownb : (Value.slice A1 (C (m * 8 + 1 + k)).length c1).ownBlock ≠ some b := fun e => by
          have := R.own (m * 8 + 1 + k) b ho (by rw [hv1]; exact e)
          rw [R.owb] at this; omega
        have hbr' := R.blt
        have hb0 := blk_cell hbr 0
        have hb1 := blk_cell hbr 1
        have hb2 := blk_cell hbr 2
        have hb3 := blk_cell hbr 3
        have hb4 := blk_cell hbr 4
        have hb5 := blk_cell hbr 5
        have hb6 := blk_cell hbr 6
        have hb7 := blk_cell hbr 7
        have hb8 := blk_cell hbr 8
        have hb9 := blk_cell hbr 9
        have hb10 := blk_cell hbr 10
        simp only [List.getElem?_toArray, List.getElem?_cons_zero, List.getElem?_cons_succ] at hb0 hb1 hb2 hb3 hb4 hb5 hb6 hb7 hb8 hb9 hb10
        have hwlt := blk_lt hbr
        have hbaseR : base ≤ wr.heap.size := Nat.le_trans hbaseW K.size
        have hlen := hC (m * 8 + 1 + k)
        have HV1 := Aside0.mk hv1
        have HCk := Aside0.mk hCk
        have hnum : ∀ W : World, ((W.alloc (.cells #[.int .i64 x.f0.f0, .int .i64 x.f0.f1, .int .i64 x.f0.f2, .int .i64 m, .int .i64 x.f2, .int .i64 x.f3, .int .i64 x.f4, .int .i64 x.f5, .int .i64 x.f6, .int .i64 x.f7, .int .i64 x.f8] 51)).alloc (.cells #[.int .i64 x.f2, .int .i64 x.f3, .int .i64 x.f4, .int .i64 x.f5, .int .i64 x.f6, .int .i64 x.f7, .int .i64 x.f8] 3)).cell? ⟨W.heap.size + 1, k, none⟩ = some (.int .i64 (numB x k)) := fun W => by
          have e := heap_alloc_new (W.alloc (.cells #[.int .i64 x.f0.f0, .int .i64 x.f0.f1, .int .i64 x.f0.f2, .int .i64 m, .int .i64 x.f2, .int .i64 x.f3, .int .i64 x.f4, .int .i64 x.f5, .int .i64 x.f6, .int .i64 x.f7, .int .i64 x.f8] 51)) (.cells #[.int .i64 x.f2, .int .i64 x.f3, .int .i64 x.f4, .int .i64 x.f5, .int .i64 x.f6, .int .i64 x.f7, .int .i64 x.f8] 3)
          rw [World.size_alloc] at e
          exact (blk_cell e k).trans (num_at x k hkn)
        clear hbr hv1 hCk hbx2 hcol R2'
        go_upto_block 1 with (fail)
        go_cut [] (fun wc => ∃ sv' ow', Rep wc base b mb sv' (upd I m (I m ++ [x.f0])) (Cadd C m x (k + 1)) (fset f x.f0 (some (m, (I m).length))) (n + 1) ow' ∧ Keeps base wr wc)
        case first =>
          go_wp2
          go_region_law
            (first
              | (refine step_append_lies _ (by rfl) _ _ _ (by rfl) base 3 i1 _ 1 8 Try.underlying26 hi1 hy0 hy1 hy2 rfl (by omega) (.slice A1 (C (m * 8 + 1 + k)).length c1) (C (m * 8 + 1 + k)).length (nums .i64 (C (m * 8 + 1 + k))) (by rfl) ((((hrow.alloc _).alloc _).alloc _).drew)
                  ⟨wr.heap.size + 2, 0, none⟩ 1 1 [.int .i64 (numB x k)] (by rfl) (by rfl) (World.news_of_block (cs := #[.int .i64 (numB x k)]) (t := 3) (fr := (0, 0)) (by have e := heap_alloc_new ((wr.alloc (.cells #[.int .i64 x.f0.f0, .int .i64 x.f0.f1, .int .i64 x.f0.f2, .int .i64 m, .int .i64 x.f2, .int .i64 x.f3, .int .i64 x.f4, .int .i64 x.f5, .int .i64 x.f6, .int .i64 x.f7, .int .i64 x.f8] 51)).alloc (.cells #[.int .i64 x.f2, .int .i64 x.f3, .int .i64 x.f4, .int .i64 x.f5, .int .i64 x.f6, .int .i64 x.f7, .int .i64 x.f8] 3)) (.cells #[.int .i64 (numB x k)] 3); rw [World.size_alloc, World.size_alloc] at e; exact e)) (by simp [Value.oneCell'])
                  (by omega) (by unfold maxLen; omega) (by omega) (by simp; omega) (wr.heap.size + 3) (by simp) ?_
                 intro gg cap w1 hown1 hgrow hat hlt
                 have hz2 : w1.frozen? ⟨b, m * 8 + 1 + k, none⟩ = false := (hgrow.frozen_far ⟨b, m * 8 + 1 + k, none⟩ (by simp; omega) (Ne.symm ownb)).trans ((((World.frozen?_alloc_old _ _ ⟨b, m * 8 + 1 + k, none⟩ (by simp; omega)).trans (World.frozen?_alloc_old _ _ ⟨b, m * 8 + 1 + k, none⟩ (by simp; omega))).trans (World.frozen?_alloc_old _ _ ⟨b, m * 8 + 1 + k, none⟩ (by simp; omega))).trans hzr)
                 have hc2 : w1.cell? ⟨b, m * 8 + 1 + k, none⟩ = some (.slice A1 (C (m * 8 + 1 + k)).length c1) := (hgrow.cell_far ⟨b, m * 8 + 1 + k, none⟩ (by simp; omega) (Ne.symm ownb)).trans (pw_cell_below (by repeat (first | exact Below.refl _ _ | apply below_alloc | apply below_drew)) hcr))
              | (go_simp; go_at_call 70; refine (numbers_x _ _ _ _ _ _ _ _ _ _ _ _).mono ?_; rintro e w' ⟨rfl, rfl⟩))
          all_goals (go_wp2; go_meet)
          all_goals
            rw [← HV1.out] at hgrow hat
            rw [← HCk.out] at hown1
            obtain ⟨⟨sv', ow', hr⟩, hk⟩ := after_col R hbaseR (by repeat (first | exact Below.refl _ _ | apply below_alloc | apply below_drew)) ho ho8 hgrow (by simpa using hat) hown1
            rw [HCk.out, Cadd_succ] at hr
            rw [HCk.out] at hk
            exact ⟨sv', ow', hr, hk⟩
        case rest =>
          obtain ⟨sv', ow', hr, hk⟩ := hcut
          go_wp2
          go_roundg g
          case measure => omega
          case rel => exact ⟨k + 1, by go_num, by omega, sv', ow', hr, K.trans hk hbaseW⟩
end Go.Proofs.Ythcgiacjmfmamaa.PA

namespace Go.Proofs.Ythcgiacjmfmamaa.PA
set_option linter.unusedVariables false
set_option linter.unusedSimpArgs false
open Go.RowKit Go.Proofs.YthcgiacjmfmamaaW.PrintWords
section
variable {w : World} {base b mb : Nat} {sv : Nat → Value} {I : Nat → List TID} {C : Nat → List Int} {f : TID → Option (Int × Int)} {n : Nat} {ow : Nat → Nat}
theorem Rep.colAt (h : Rep w base b mb sv I C f n ow) {o r : Nat} (ho : o < 256) (h8 : o % 8 ≠ 0) (hr : r < (C o).length) : ∃ g cap, sv o = .slice (some ⟨g, 0, none⟩) (C o).length cap ∧ g < w.heap.size ∧ w.cell? ⟨g, r, none⟩ = some (.int .i64 ((C o)[r]'hr)) ∧ ow g = o ∧ (∃ cur, w.heap[g]? = some (.cells cur 3 (0, 0))) := by
  rcases (h.cols o ho h8).2 with ⟨_, h0⟩ | ⟨g, cap, cur, hv, hb, hg, h1, h2, h3, h4⟩
  · omega
  · refine ⟨g, cap, hv, blk_lt hg, ?_, h.own o g ho (by rw [hv]; rfl), cur, hg⟩
    rw [blk_cell hg]
    have e : cur.toList[r]? = (nums .i64 (C o))[r]? := by rw [← h4, List.getElem?_take, if_pos (by omega)]
    rw [← Array.getElem?_toList, e]
    simp [nums, hr]
theorem idCells_at : ∀ (l : List TID) (r : Nat) (hr : r < l.length), (idCells l)[r * 3]? = some (.int .i64 (l[r]'hr).f0) ∧ (idCells l)[r * 3 + 1]? = some (.int .i64 (l[r]'hr).f1) ∧ (idCells l)[r * 3 + 2]? = some (.int .i64 (l[r]'hr).f2)
  | x :: l, 0, _ => ⟨rfl, rfl, rfl⟩
  | x :: l, r + 1, hr => by
    have ih := idCells_at l r (by simpa using hr)
    simp only [idCells, List.flatMap_cons] at ih ⊢
    rw [show (r + 1) * 3 = r * 3 + 3 by omega]
    exact ⟨ih.1, ih.2.1, ih.2.2⟩
theorem Rep.idAt (h : Rep w base b mb sv I C f n ow) {m r : Nat} (hm : m < 32) (hr : r < (I m).length) : ∃ g cap, sv (8 * m) = .slice (some ⟨g, 0, none⟩) (I m).length cap ∧ g < w.heap.size ∧ w.cell? ⟨g, r * 3, none⟩ = some (.int .i64 ((I m)[r]'hr).f0) ∧ w.cell? ⟨g, r * 3 + 1, none⟩ = some (.int .i64 ((I m)[r]'hr).f1) ∧
    w.cell? ⟨g, r * 3 + 2, none⟩ = some (.int .i64 ((I m)[r]'hr).f2) ∧ ow g = 8 * m ∧ (∃ cur, w.heap[g]? = some (.cells cur 48 (0, 0))) := by
  rcases (h.ids m hm).2 with ⟨_, h0⟩ | ⟨g, cap, cur, hv, hb, hg, h1, h2, h3, h4⟩
  · omega
  · have e : ∀ j, j < (I m).length * 3 → cur[j]? = (idCells (I m))[j]? := fun j hj => by rw [← h4, List.getElem?_take, if_pos hj, Array.getElem?_toList]
    obtain ⟨i0, i1, i2⟩ := idCells_at (I m) r hr
    refine ⟨g, cap, hv, blk_lt hg, ?_, ?_, ?_, h.own _ g (by omega) (by rw [hv]; rfl), cur, hg⟩
    · rw [blk_cell hg, e _ (by omega)]; exact i0
    · rw [blk_cell hg, e _ (by omega)]; exact i1
    · rw [blk_cell hg, e _ (by omega)]; exact i2
end
theorem set11 {W : World} {g t : Nat} {z0 z1 z2 z3 z4 z5 z6 z7 z8 z9 z10 : Value} (h : W.heap[g]? = some (.cells #[z0, z1, z2, z3, z4, z5, z6, z7, z8, z9, z10] t (0, 0))) (v0 v1 v2 v3 v4 v5 v6 v7 v8 v9 v10 : Value) :
    (((((((((((W.setCell ⟨g, 0, none⟩ v0).setCell ⟨g, 1, none⟩ v1).setCell ⟨g, 2, none⟩ v2).setCell ⟨g, 3, none⟩ v3).setCell ⟨g, 4, none⟩ v4).setCell ⟨g, 5, none⟩ v5).setCell ⟨g, 6, none⟩ v6).setCell ⟨g, 7, none⟩ v7).setCell ⟨g, 8, none⟩ v8).setCell ⟨g, 9, none⟩ v9).setCell ⟨g, 10, none⟩ v10).heap[g]? = some (.cells #[v0, v1, v2, v3, v4, v5, v6, v7, v8, v9, v10] t (0, 0)) := by
  have h0 : (W.setCell ⟨g, 0, none⟩ v0).heap[g]? = some (.cells #[v0, z1, z2, z3, z4, z5, z6, z7, z8, z9, z10] t (0, 0)) := blk_set h 0 v0
  have h1 : ((W.setCell ⟨g, 0, none⟩ v0).setCell ⟨g, 1, none⟩ v1).heap[g]? = some (.cells #[v0, v1, z2, z3, z4, z5, z6, z7, z8, z9, z10] t (0, 0)) := blk_set h0 1 v1
  have h2 : (((W.setCell ⟨g, 0, none⟩ v0).setCell ⟨g, 1, none⟩ v1).setCell ⟨g, 2, none⟩ v2).heap[g]? = some (.cells #[v0, v1, v2, z3, z4, z5, z6, z7, z8, z9, z10] t (0, 0)) := blk_set h1 2 v2
  have h3 : ((((W.setCell ⟨g, 0, none⟩ v0).setCell ⟨g, 1, none⟩ v1).setCell ⟨g, 2, none⟩ v2).setCell ⟨g, 3, none⟩ v3).heap[g]? = some (.cells #[v0, v1, v2, v3, z4, z5, z6, z7, z8, z9, z10] t (0, 0)) := blk_set h2 3 v3
  have h4 : (((((W.setCell ⟨g, 0, none⟩ v0).setCell ⟨g, 1, none⟩ v1).setCell ⟨g, 2, none⟩ v2).setCell ⟨g, 3, none⟩ v3).setCell ⟨g, 4, none⟩ v4).heap[g]? = some (.cells #[v0, v1, v2, v3, v4, z5, z6, z7, z8, z9, z10] t (0, 0)) := blk_set h3 4 v4
  have h5 : ((((((W.setCell ⟨g, 0, none⟩ v0).setCell ⟨g, 1, none⟩ v1).setCell ⟨g, 2, none⟩ v2).setCell ⟨g, 3, none⟩ v3).setCell ⟨g, 4, none⟩ v4).setCell ⟨g, 5, none⟩ v5).heap[g]? = some (.cells #[v0, v1, v2, v3, v4, v5, z6, z7, z8, z9, z10] t (0, 0)) := blk_set h4 5 v5
  have h6 : (((((((W.setCell ⟨g, 0, none⟩ v0).setCell ⟨g, 1, none⟩ v1).setCell ⟨g, 2, none⟩ v2).setCell ⟨g, 3, none⟩ v3).setCell ⟨g, 4, none⟩ v4).setCell ⟨g, 5, none⟩ v5).setCell ⟨g, 6, none⟩ v6).heap[g]? = some (.cells #[v0, v1, v2, v3, v4, v5, v6, z7, z8, z9, z10] t (0, 0)) := blk_set h5 6 v6
  have h7 : ((((((((W.setCell ⟨g, 0, none⟩ v0).setCell ⟨g, 1, none⟩ v1).setCell ⟨g, 2, none⟩ v2).setCell ⟨g, 3, none⟩ v3).setCell ⟨g, 4, none⟩ v4).setCell ⟨g, 5, none⟩ v5).setCell ⟨g, 6, none⟩ v6).setCell ⟨g, 7, none⟩ v7).heap[g]? = some (.cells #[v0, v1, v2, v3, v4, v5, v6, v7, z8, z9, z10] t (0, 0)) := blk_set h6 7 v7
  have h8 : (((((((((W.setCell ⟨g, 0, none⟩ v0).setCell ⟨g, 1, none⟩ v1).setCell ⟨g, 2, none⟩ v2).setCell ⟨g, 3, none⟩ v3).setCell ⟨g, 4, none⟩ v4).setCell ⟨g, 5, none⟩ v5).setCell ⟨g, 6, none⟩ v6).setCell ⟨g, 7, none⟩ v7).setCell ⟨g, 8, none⟩ v8).heap[g]? = some (.cells #[v0, v1, v2, v3, v4, v5, v6, v7, v8, z9, z10] t (0, 0)) := blk_set h7 8 v8
  have h9 : ((((((((((W.setCell ⟨g, 0, none⟩ v0).setCell ⟨g, 1, none⟩ v1).setCell ⟨g, 2, none⟩ v2).setCell ⟨g, 3, none⟩ v3).setCell ⟨g, 4, none⟩ v4).setCell ⟨g, 5, none⟩ v5).setCell ⟨g, 6, none⟩ v6).setCell ⟨g, 7, none⟩ v7).setCell ⟨g, 8, none⟩ v8).setCell ⟨g, 9, none⟩ v9).heap[g]? = some (.cells #[v0, v1, v2, v3, v4, v5, v6, v7, v8, v9, z10] t (0, 0)) := blk_set h8 9 v9
  have h10 : (((((((((((W.setCell ⟨g, 0, none⟩ v0).setCell ⟨g, 1, none⟩ v1).setCell ⟨g, 2, none⟩ v2).setCell ⟨g, 3, none⟩ v3).setCell ⟨g, 4, none⟩ v4).setCell ⟨g, 5, none⟩ v5).setCell ⟨g, 6, none⟩ v6).setCell ⟨g, 7, none⟩ v7).setCell ⟨g, 8, none⟩ v8).setCell ⟨g, 9, none⟩ v9).setCell ⟨g, 10, none⟩ v10).heap[g]? = some (.cells #[v0, v1, v2, v3, v4, v5, v6, v7, v8, v9, v10] t (0, 0)) := blk_set h9 10 v10
  exact h10
theorem at_drew {W : World} {g : Nat} {o : Option Obj} (h : W.heap[g]? = o) : W.drew.heap[g]? = o := h
theorem set11d {W : World} {g t : Nat} {z0 z1 z2 z3 z4 z5 z6 z7 z8 z9 z10 : Value} (h : W.heap[g]? = some (.cells #[z0, z1, z2, z3, z4, z5, z6, z7, z8, z9, z10] t (0, 0))) (v0 v1 v2 v3 v4 v5 v6 v7 v8 v9 v10 : Value) :
    (((((((((((W.setCell ⟨g, 0, none⟩ v0).setCell ⟨g, 1, none⟩ v1).setCell ⟨g, 2, none⟩ v2).setCell ⟨g, 3, none⟩ v3).setCell ⟨g, 4, none⟩ v4).setCell ⟨g, 5, none⟩ v5).setCell ⟨g, 6, none⟩ v6).setCell ⟨g, 7, none⟩ v7).setCell ⟨g, 8, none⟩ v8).setCell ⟨g, 9, none⟩ v9).setCell ⟨g, 10, none⟩ v10).drew.heap[g]? = some (.cells #[v0, v1, v2, v3, v4, v5, v6, v7, v8, v9, v10] t (0, 0)) :=
  at_drew (set11 h v0 v1 v2 v3 v4 v5 v6 v7 v8 v9 v10)
theorem at_results {W : World} {tmps : Array Value} {g : Nat} {v0 v1 v2 v3 v4 v5 v6 v7 v8 v9 v10 : Value} (ht : tmps[4]?.getD undef = .pointer (some ⟨g, 0, none⟩)) (h : W.heap[g]? = some (.cells #[v0, v1, v2, v3, v4, v5, v6, v7, v8, v9, v10] 51 (0, 0))) :
    (results Try.f51 tmps).run Try.prog W = .ok (.agg #[v0, v1, v2, v3, v4, v5, v6, v7, v8, v9, v10]) W := by
  have c0 : W.cell? ⟨g, 0, none⟩ = some v0 := blk_cell h 0
  have c1 : W.cell? ⟨g, 1, none⟩ = some v1 := blk_cell h 1
  have c2 : W.cell? ⟨g, 2, none⟩ = some v2 := blk_cell h 2
  have c3 : W.cell? ⟨g, 3, none⟩ = some v3 := blk_cell h 3
  have c4 : W.cell? ⟨g, 4, none⟩ = some v4 := blk_cell h 4
  have c5 : W.cell? ⟨g, 5, none⟩ = some v5 := blk_cell h 5
  have c6 : W.cell? ⟨g, 6, none⟩ = some v6 := blk_cell h 6
  have c7 : W.cell? ⟨g, 7, none⟩ = some v7 := blk_cell h 7
  have c8 : W.cell? ⟨g, 8, none⟩ = some v8 := blk_cell h 8
  have c9 : W.cell? ⟨g, 9, none⟩ = some v9 := blk_cell h 9
  have c10 : W.cell? ⟨g, 10, none⟩ = some v10 := blk_cell h 10
  simp [results, Try.results51, go_sem, ht, c0, c1, c2, c3, c4, c5, c6, c7, c8, c9, c10]
set_option maxRecDepth 100000 in
set_option maxHeartbeats 1000000 in
theorem at_x (w : World) {base b mb : Nat} {sv : Nat → Value} {I : Nat → List TID} {C : Nat → List Int} {f : TID → Option (Int × Int)} {n : Nat} {ow : Nat → Nat} (h : Rep w base b mb sv I C f n ow) (m r : Nat) (hm : m < 32) (hr : r < (I m).length) (hC : ∀ j, 1 ≤ j → j < 8 → (C (m * 8 + j)).length = (I m).length) (hI : (I m).length < 1000000) (x : TB)
    (hx0 : x.f0 = (I m)[r]'hr) (hx1 : ∀ j (hj : j < 7), numB x j = (C (m * 8 + 1 + j))[r]'(by rw [show m * 8 + 1 + j = m * 8 + (1 + j) by omega, hC (1 + j) (by omega) (by omega)]; exact hr)) :
    Calls Try.prog 51 #[.pointer (some ⟨b, 0, none⟩), .agg #[.int .i64 m, .int .i64 r]] w fun e w' => e = .returned (.agg #[.int .i64 x.f0.f0, .int .i64 x.f0.f1, .int .i64 x.f0.f2, .int .i64 m, .int .i64 x.f2, .int .i64 x.f3, .int .i64 x.f4, .int .i64 x.f5, .int .i64 x.f6, .int .i64 x.f7, .int .i64 x.f8]) ∧ Below w.heap.size w w' := by
  have hb := h.blt
  obtain ⟨g0, cap0, hv0, hg0, hi0, hi1, hi2, _, _⟩ := h.idAt hm hr
  rw [← hx0] at hi0 hi1 hi2
  have hcol : ∀ j (hj : j < 7), ∃ g cap, w.cell? ⟨b, m * 8 + 1 + j, none⟩ = some (.slice (some ⟨g, 0, none⟩) (I m).length cap) ∧ g < w.heap.size ∧ w.cell? ⟨g, r, none⟩ = some (.int .i64 (numB x j)) := fun j hj => by
    have hl : (C (m * 8 + 1 + j)).length = (I m).length := by rw [show m * 8 + 1 + j = m * 8 + (1 + j) by omega]; exact hC (1 + j) (by omega) (by omega)
    obtain ⟨g, cap, e1, e2, e3, _, _⟩ := h.colAt (o := m * 8 + 1 + j) (r := r) (by omega) (by omega) (by omega)
    refine ⟨g, cap, ?_, e2, ?_⟩
    · rw [h.cell _ (by omega), e1, hl]
    · rw [hx1 j hj]; exact e3
  have hcell0 : w.cell? ⟨b, m * 8, none⟩ = some (.slice (some ⟨g0, 0, none⟩) (I m).length cap0) := by rw [Nat.mul_comm m 8, h.cell _ (by omega), hv0]
  obtain ⟨g1, cap1, ha1, hl1, hn1⟩ := hcol 0 (by omega)
  obtain ⟨g2, cap2, ha2, hl2, hn2⟩ := hcol 1 (by omega)
  obtain ⟨g3, cap3, ha3, hl3, hn3⟩ := hcol 2 (by omega)
  obtain ⟨g4, cap4, ha4, hl4, hn4⟩ := hcol 3 (by omega)
  obtain ⟨g5, cap5, ha5, hl5, hn5⟩ := hcol 4 (by omega)
  obtain ⟨g6, cap6, ha6, hl6, hn6⟩ := hcol 5 (by omega)
  obtain ⟨g7, cap7, ha7, hl7, hn7⟩ := hcol 6 (by omega)
  simp only [numB, Nat.add_zero, Nat.add_assoc, Nat.reduceAdd] at ha1 ha2 ha3 ha4 ha5 ha6 ha7 hn1 hn2 hn3 hn4 hn5 hn6 hn7
  have hlo : (0 : Int) ≤ (m : Int) := by omega
  have hhi : (m : Int) < 32 := by omega
  have hr0 : (0 : Int) ≤ (r : Int) := by omega
  have hr1 : (r : Int) < ((I m).length : Int) := by omega
  clear hx0 hx1 hC hcol h hv0
  go_enter Try.func51, Try.ntmps51
  go_wp2
  go_region
  go_wp2
  obtain ⟨W0, hW0⟩ : ∃ W0, W0 = ((w.alloc (Obj.cells #[.int .i64 m, .int .i64 r] 81)).alloc (Obj.cells #[.int .i64 0, .int .i64 0, .int .i64 0, .int .i64 0, .int .i64 0, .int .i64 0, .int .i64 0, .int .i64 0, .int .i64 0, .int .i64 0, .int .i64 0] 51)).drew := ⟨_, rfl⟩
  rw [← hW0]
  have hbW : Below w.heap.size w W0 := by rw [hW0]; repeat (first | exact Below.refl _ _ | apply below_alloc | apply below_drew)
  replace hi0 := pw_cell_below hbW hi0
  replace hi1 := pw_cell_below hbW hi1
  replace hi2 := pw_cell_below hbW hi2
  replace hcell0 := pw_cell_below hbW hcell0
  replace ha1 := pw_cell_below hbW ha1
  replace ha2 := pw_cell_below hbW ha2
  replace ha3 := pw_cell_below hbW ha3
  replace ha4 := pw_cell_below hbW ha4
  replace ha5 := pw_cell_below hbW ha5
  replace ha6 := pw_cell_below hbW ha6
  replace ha7 := pw_cell_below hbW ha7
  replace hn1 := pw_cell_below hbW hn1
  replace hn2 := pw_cell_below hbW hn2
  replace hn3 := pw_cell_below hbW hn3
  replace hn4 := pw_cell_below hbW hn4
  replace hn5 := pw_cell_below hbW hn5
  replace hn6 := pw_cell_below hbW hn6
  replace hn7 := pw_cell_below hbW hn7
  have hp0 : W0.cell? ⟨w.heap.size, 0, none⟩ = some (.int .i64 m) := by rw [hW0]; go_keep
  have hres : W0.heap[w.heap.size + 1]? = some (.cells #[.int .i64 0, .int .i64 0, .int .i64 0, .int .i64 0, .int .i64 0, .int .i64 0, .int .i64 0, .int .i64 0, .int .i64 0, .int .i64 0, .int .i64 0] 51 (0, 0)) := by
    rw [hW0]
    have e := heap_alloc_new (w.alloc (Obj.cells #[.int .i64 m, .int .i64 r] 81)) (Obj.cells #[.int .i64 0, .int .i64 0, .int .i64 0, .int .i64 0, .int .i64 0, .int .i64 0, .int .i64 0, .int .i64 0, .int .i64 0, .int .i64 0, .int .i64 0] 51)
    rw [World.size_alloc] at e
    exact e
  clear hW0
  have hz0 := blk_cell hres 0
  have hz1 := blk_cell hres 1
  have hz2 := blk_cell hres 2
  have hz3 := blk_cell hres 3
  have hz4 := blk_cell hres 4
  have hz5 := blk_cell hres 5
  have hz6 := blk_cell hres 6
  have hz7 := blk_cell hres 7
  have hz8 := blk_cell hres 8
  have hz9 := blk_cell hres 9
  have hz10 := blk_cell hres 10
  simp only [List.getElem?_toArray, List.getElem?_cons_zero, List.getElem?_cons_succ] at hz0 hz1 hz2 hz3 hz4 hz5 hz6 hz7 hz8 hz9 hz10
  have hf0 := blk_frozen hres 0
  have hf1 := blk_frozen hres 1
  have hf2 := blk_frozen hres 2
  have hf3 := blk_frozen hres 3
  have hf4 := blk_frozen hres 4
  have hf5 := blk_frozen hres 5
  have hf6 := blk_frozen hres 6
  have hf7 := blk_frozen hres 7
  have hf8 := blk_frozen hres 8
  have hf9 := blk_frozen hres 9
  have hf10 := blk_frozen hres 10
  go_still_tail 59, (by kernel_rfl)
  change wpList _ _ _ _ _ W0.drew
  have Hres := Aside0.mk hres
  clear hres
  go_wp2
  have e := set11d Hres.out (.int .i64 x.f0.f0) (.int .i64 x.f0.f1) (.int .i64 x.f0.f2) (.int .i64 m) (.int .i64 x.f2) (.int .i64 x.f3) (.int .i64 x.f4) (.int .i64 x.f5) (.int .i64 x.f6) (.int .i64 x.f7) (.int .i64 x.f8)

  refine bodyPost_ret (v := .agg #[.int .i64 x.f0.f0, .int .i64 x.f0.f1, .int .i64 x.f0.f2, .int .i64 m, .int .i64 x.f2, .int .i64 x.f3, .int .i64 x.f4, .int .i64 x.f5, .int .i64 x.f6, .int .i64 x.f7, .int .i64 x.f8]) ?_ ?_ ?_
  ·
    exact at_results rfl e
  ·
    rfl
  ·
    exact ⟨rfl, below_drew (by repeat (first | (with_reducible exact hbW) | (with_reducible refine below_set ?_ (Nat.le_succ _))))⟩
end Go.Proofs.Ythcgiacjmfmamaa.PA
