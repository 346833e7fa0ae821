/- Words for field.Interpolate: the map of what was seen, arrays, Neville's scheme. -/
import Derived.Test.YthkagcelpdcfkaaJoin1
import Derived.Maps.OwnOps
import Derived.Maps.Views
namespace Go.Proofs.Ythkagcelpdcfkaa
open Go.RowKit Go.Maps

/-- A slice of pairs of ints. -/
def Pts (w : World) (b off : Nat) (ps : List (Int × Int)) : Prop :=
  ∀ j p, ps[j]? = some p → w.cell? ⟨b, off + j * 2, none⟩ = some (.int .i64 p.1) ∧ w.cell? ⟨b, off + j * 2 + 1, none⟩ = some (.int .i64 p.2)

theorem intKeyed : Keyed Try.prog 3 := int_keyed Try.underlying3

/-- The map of the first elements seen so far. -/
def Seen (w : World) (B n : Nat) (xs : List Int) : Prop :=
  ∃ D : DataW Unit, w.ownsMap Try.prog 3 (plainElem Try.prog 4) B n D ∧ IsMap D ∧ ∀ y : Int, D.atKey (.int .i64 y) (.lit (.bool false)) = .lit (.bool (decide (y ∈ xs)))

theorem Seen.made (w : World) : Seen (w.alloc (.map #[] 0)) w.heap.size 0 [] :=
  ⟨_, World.ownsMap_made _ _ _ _, ⟨[], rfl⟩, fun y => by simp [DataW.atKey]⟩

theorem Seen.grown {w w' : World} {B n : Nat} {xs : List Int} (h : Seen w B n xs) {row : Option Nat} (hg : w.grownBy w' row) (hne : some B ≠ row) : Seen w' B n xs := by
  obtain ⟨D, h1, h2, h3⟩ := h
  exact ⟨D, h1.kept hg hne, h2, h3⟩

theorem zeroBool (w : World) : (zeroValue 4).run Try.prog w = .ok (.bool false) w := by kernel_rfl

theorem wf_elem {x : Int} (h : elemB x = true) : (Lit.int .i64 x).wf = true := by
  have ⟨h0, h1⟩ := (elemB_iff x).1 h
  exact WalkArith.wf_i64 (by omega)

theorem Seen.look {w : World} {B n : Nat} {xs : List Int} (h : Seen w B n xs) (x : Int) (hx : elemB x = true) (hn : x ∉ xs) :
    (Instr.lookup 55 (.map (some B)) (.int .i64 x) false).run Try.prog w = .ok (.bool false) w := by
  obtain ⟨D, h1, h2, h3⟩ := h
  obtain ⟨v, ps, hr, hv⟩ := h1.lookup intKeyed Try.underlying55 (zeroBool w) (plainElem_bool Try.underlying4 false) (keyOf_int_mk Try.underlying3 (wf_elem hx))
  rw [h3 x] at hv
  have hf : decide (x ∈ xs) = false := by simpa using hn
  rw [hf] at hv
  have : v = .bool false := by
    unfold plainElem at hv
    rw [Try.underlying4] at hv
    cases v <;> simp at hv
    rw [hv.1]
  rw [hr, this]

theorem Seen.put {w : World} {B n : Nat} {xs : List Int} (h : Seen w B n xs) (x : Int) (hx : elemB x = true) (hn : n < 1000) :
    ∃ w', (Instr.mapUpdate 55 (.map (some B)) (.int .i64 x) (.bool true)).run Try.prog w = .ok () w' ∧ Seen w' B (n + 1) (xs ++ [x]) ∧ w.grownBy w' (some B) := by
  obtain ⟨D, h1, h2, h3⟩ := h
  obtain ⟨w', hr, ho, hg⟩ := h1.update intKeyed Try.underlying55 (by unfold maxLen; omega) (keyOf_int_mk Try.underlying3 (wf_elem hx)) (plainElem_bool Try.underlying4 true)
  refine ⟨w', hr, ⟨_, ho, ?_, ?_⟩, hg⟩
  · obtain ⟨es, rfl⟩ := h2
    exact ⟨_, rfl⟩
  · intro y
    by_cases hy : y = x
    · subst hy
      rw [atKey_put_same h2 (by trivial)]; simp
    · rw [atKey_put_other (by simpa using hy), h3 y]
      simp [hy]

/-- A block of ints that the call made: its j-th cell is f j. -/
def Arr (w : World) (B T n : Nat) (f : Nat → Int) : Prop :=
  ∃ cs : Array Value, w.heap[B]? = some (.cells cs T (0, 0)) ∧ cs.size = n ∧ ∀ j, j < n → cs[j]? = some (.int .i64 (f j))

theorem Arr.lt {w : World} {B T n : Nat} {f : Nat → Int} (h : Arr w B T n f) : B < w.heap.size := by
  obtain ⟨cs, h1, _⟩ := h
  exact (Array.getElem?_eq_some_iff.1 h1).1
theorem Arr.cell {w : World} {B T n : Nat} {f : Nat → Int} (h : Arr w B T n f) (j : Nat) (hj : j < n) : w.cell? ⟨B, j, none⟩ = some (.int .i64 (f j)) := by
  obtain ⟨cs, h1, h2, h3⟩ := h
  rw [cell_of_row w B j cs T (0, 0) h1]; exact h3 j hj
theorem Arr.frozen {w : World} {B T n : Nat} {f : Nat → Int} (h : Arr w B T n f) (j : Nat) : w.frozen? ⟨B, j, none⟩ = false := by
  obtain ⟨cs, h1, h2, h3⟩ := h
  exact frozen_of_row w B j cs T h1
theorem Arr.grown {w w' : World} {B T n : Nat} {f : Nat → Int} (h : Arr w B T n f) {row : Option Nat} (hg : w.grownBy w' row) (hne : some B ≠ row) : Arr w' B T n f := by
  have hlt := h.lt
  obtain ⟨cs, h1, h2⟩ := h
  exact ⟨cs, (hg.block B hlt hne).trans h1, h2⟩
theorem Arr.alloc {w : World} {B T n : Nat} {f : Nat → Int} (h : Arr w B T n f) (o : Obj) : Arr (w.alloc o) B T n f := h.grown (World.grownBy_alloc w o none) (by simp)
theorem Arr.drewN {w : World} {B T n : Nat} {f : Nat → Int} (h : Arr w B T n f) (m : Nat) : Arr (w.drewN m) B T n f := h
theorem Arr.set {w : World} {B T n : Nat} {f : Nat → Int} (h : Arr w B T n f) (i : Nat) (v : Int) : Arr (w.setCell ⟨B, i, none⟩ (.int .i64 v)) B T n (fun j => if j = i then v else f j) := by
  obtain ⟨cs, h1, h2, h3⟩ := h
  refine ⟨cs.setIfInBounds i (.int .i64 v), heap_setCell_same w B i cs T _ h1, by simpa using h2, fun j hj => ?_⟩
  by_cases hji : j = i
  · subst hji
    simp [h2, hj]
  · rw [Array.getElem?_setIfInBounds_ne (by omega), h3 j hj]
    simp [hji]

theorem Arr.zeros16 (w : World) (T : Nat) : Arr (w.alloc (.cells #[.int .i64 0, .int .i64 0, .int .i64 0, .int .i64 0, .int .i64 0, .int .i64 0, .int .i64 0, .int .i64 0, .int .i64 0, .int .i64 0, .int .i64 0, .int .i64 0, .int .i64 0, .int .i64 0, .int .i64 0, .int .i64 0] T)) w.heap.size T 16 (fun _ => 0) := by
  refine ⟨_, heap_alloc_new w _, rfl, fun j hj => ?_⟩
  match j, hj with
  | 0, _ | 1, _ | 2, _ | 3, _ | 4, _ | 5, _ | 6, _ | 7, _ | 8, _ | 9, _ | 10, _ | 11, _ | 12, _ | 13, _ | 14, _ | 15, _ => rfl
  | n + 16, h => omega

/-- Neville's scheme: the value at x of the polynomial through the points j .. j + k. -/
noncomputable def nv (x : Int) (ps : List (Int × Int)) : Nat → Nat → Int
  | 0, j => (ps[j]?.getD (0, 0)).2
  | k + 1, j => nst x (ps[j]?.getD (0, 0)).1 (ps[j + (k + 1)]?.getD (0, 0)).1 (nv x ps k j) (nv x ps k (j + 1))

theorem nv_range (x : Int) (ps : List (Int × Int)) (hall : ∀ p, p ∈ ps → elemB p.1 = true ∧ elemB p.2 = true) (k j : Nat) : 0 ≤ nv x ps k j ∧ nv x ps k j < 2147483647 := by
  cases k with
  | zero =>
    simp only [nv]
    cases h : ps[j]? with
    | none => simp
    | some p => have := (elemB_iff p.2).1 (hall p (List.mem_of_getElem? h)).2; simpa using this
  | succ k => exact nst_range _ _ _ _ _

end Go.Proofs.Ythkagcelpdcfkaa
