/- The helper through of SharesHide: Lagrange's interpolation, coefficient by coefficient. -/
import Derived.Test.YthkagcelpdcfkaaDiffer
namespace Go.Proofs.Ythkagcelpdcfkaa
open Go.RowKit

/-! ### plain -/
def addm (x y : Int) : Int := (x + y) % 2147483647
def scaled (t : List Int) (b : Int) : List Int := t.map fun a => a * b % 2147483647
def nextL (t : List Int) (b mi : Int) : List Int := List.zipWith addm (0 :: scaled t b) (scaled (scaled t b) mi ++ [0])

theorem nextL_length (t : List Int) (b mi : Int) : (nextL t b mi).length = t.length + 1 := by simp [nextL, scaled]

theorem phi_ev_scaled (t : List Int) (b x : Int) : phi (evp (scaled t b) x) = phi b * phi (evp t x) := by
  induction t with
  | nil => simp only [scaled, List.map_nil, evp, phi_zero]; grind
  | cons a t ih =>
    simp only [scaled, List.map_cons, evp] at *
    rw [phi_emod, phi_add, phi_mul, ih, phi_emod, phi_mul, phi_emod, phi_add, phi_mul]; grind

theorem phi_ev_snoc (t : List Int) (x : Int) : phi (evp (t ++ [0]) x) = phi (evp t x) := by
  induction t with
  | nil => simp [evp]
  | cons a t ih =>
    simp only [List.cons_append, evp] at *
    rw [phi_emod, phi_add, phi_mul, ih, phi_emod, phi_add, phi_mul]

theorem phi_ev_zip (a b : List Int) (h : a.length = b.length) (x : Int) : phi (evp (List.zipWith addm a b) x) = phi (evp a x) + phi (evp b x) := by
  have := evp_addL a b h x
  unfold addL at this
  have e : List.zipWith addm a b = List.zipWith (fun x y => (x + y) % 2147483647) a b := rfl
  rw [e, this, phi_emod, phi_add]

theorem phi_ev_next (t : List Int) (b mi x : Int) : phi (evp (nextL t b mi) x) = phi b * (phi x + phi mi) * phi (evp t x) := by
  unfold nextL
  rw [phi_ev_zip _ _ (by simp [scaled]), phi_ev_snoc, phi_ev_scaled, phi_ev_scaled]
  simp only [evp]
  rw [phi_emod, phi_add, phi_mul, phi_ev_scaled, phi_zero]; grind

theorem addm_elem (x y : Int) : elemB (addm x y) = true := by rw [elemB_iff]; unfold addm; omega

theorem nextL_elem (t : List Int) (b mi : Int) : (nextL t b mi).all elemB = true := by
  rw [List.all_eq_true]
  intro z hz
  obtain ⟨i, hi⟩ := List.getElem?_of_mem hz
  unfold nextL at hi
  rw [List.getElem?_zipWith] at hi
  split at hi
  · simp at hi; rw [← hi]; exact addm_elem _ _
  · cases hi

/-- The cells of next when k coefficients have been worked in. -/
def nextF (t : List Int) (b mi : Int) (k j : Nat) : Int :=
  if j < k then (nextL t b mi)[j]?.getD 0 else if j = k then (0 :: scaled t b)[j]?.getD 0 else 0

theorem scaled_get (t : List Int) (b : Int) (k : Nat) (a : Int) (h : t[k]? = some a) : (scaled t b)[k]? = some (a * b % 2147483647) := by simp [scaled, h]

theorem nextL_get (t : List Int) (b mi : Int) (k : Nat) (a : Int) (h : t[k]? = some a) :
    (nextL t b mi)[k]?.getD 0 = addm ((0 :: scaled t b)[k]?.getD 0) (a * b % 2147483647 * mi % 2147483647) := by
  have hk : k < t.length := (List.getElem?_eq_some_iff.1 h).1
  unfold nextL
  rw [List.getElem?_zipWith, List.getElem?_append_left (by simp [scaled]; exact hk), scaled_get _ mi k _ (scaled_get t b k a h)]
  obtain ⟨y, hy⟩ := get_some (0 :: scaled t b) k (by simp [scaled]; omega)
  rw [hy]; rfl

theorem nextF_range (t : List Int) (b mi : Int) (k j : Nat) : 0 ≤ nextF t b mi k j ∧ nextF t b mi k j < 2147483647 := by
  unfold nextF
  split
  · cases h : (nextL t b mi)[j]? with
    | none => simp
    | some y => have := (elemB_iff y).1 (List.all_eq_true.1 (nextL_elem t b mi) y (List.mem_of_getElem? h)); simpa using this
  · split
    · cases j with
      | zero => simp
      | succ j =>
        cases h : (scaled t b)[j]? with
        | none => simp [h]
        | some y =>
          obtain ⟨u, _, rfl⟩ := List.mem_map.1 (List.mem_of_getElem? h)
          simp only [List.getElem?_cons_succ, h, Option.getD_some]; omega
    · omega

theorem nextF_step (t : List Int) (b mi : Int) (k : Nat) (a : Int) (h : t[k]? = some a) (j : Nat) :
    (if j = k + 1 then addm (if k + 1 = k then addm (nextF t b mi k k) (a * b % 2147483647 * mi % 2147483647) else nextF t b mi k (k + 1)) (a * b % 2147483647)
      else if j = k then addm (nextF t b mi k k) (a * b % 2147483647 * mi % 2147483647) else nextF t b mi k j) = nextF t b mi (k + 1) j := by
  rw [if_neg (show ¬ k + 1 = k by omega)]
  by_cases h1 : j = k + 1
  · subst h1
    rw [if_pos rfl]
    unfold nextF
    rw [if_neg (by omega), if_neg (by omega), if_neg (by omega), if_pos rfl, List.getElem?_cons_succ, scaled_get t b k a h]
    simp only [addm, Option.getD_some]; omega
  · rw [if_neg h1]
    by_cases h2 : j = k
    · subst h2
      rw [if_pos rfl]
      unfold nextF
      rw [if_neg (by omega), if_pos rfl, if_pos (by omega), nextL_get t b mi j a h]
    · rw [if_neg h2]
      unfold nextF
      by_cases h3 : j < k
      · rw [if_pos h3, if_pos (by omega)]
      · rw [if_neg h3, if_neg h2, if_neg (by omega), if_neg (by omega)]

theorem nextF_done (t : List Int) (b mi : Int) : (List.range (t.length + 1)).map (nextF t b mi t.length) = nextL t b mi := by
  apply List.ext_getElem?
  intro j
  by_cases hj : j < t.length + 1
  · rw [List.getElem?_map, List.getElem?_range hj]
    obtain ⟨y, hy⟩ := get_some (nextL t b mi) j (by rw [nextL_length]; exact hj)
    rw [hy]
    simp only [Option.map_some, Option.some.injEq]
    unfold nextF
    by_cases h1 : j < t.length
    · rw [if_pos h1, hy]; rfl
    · have h2 : j = t.length := by omega
      rw [if_neg h1, if_pos h2]
      unfold nextL at hy
      rw [List.getElem?_zipWith, List.getElem?_append_right (by simp [scaled]; omega)] at hy
      have e : j - (scaled (scaled t b) mi).length = 0 := by simp [scaled]; omega
      rw [e] at hy
      obtain ⟨z, hz⟩ := get_some (0 :: scaled t b) j (by simp [scaled]; omega)
      rw [hz] at hy ⊢
      simp only [List.getElem?_cons_zero, Option.some.injEq] at hy
      have hr : 0 ≤ z ∧ z < 2147483647 := by
        cases j with
        | zero => simp at hz; omega
        | succ j =>
          obtain ⟨u, _, rfl⟩ := List.mem_map.1 (List.mem_of_getElem? (show (scaled t b)[j]? = some z by simpa using hz))
          omega
      unfold addm at hy
      simp only [Option.getD_some]; omega
  · rw [List.getElem?_eq_none (by simp; omega), List.getElem?_eq_none (by rw [nextL_length]; omega)]

/-! ### memory -/
theorem Arr.of_made {w : World} {base T n g : Nat} (h : w.ownsRow base T 1 (.slice (some ⟨g, 0, none⟩) n n) n (madeCells #[.int .i64 0] n).toList) : Arr w g T n (fun _ => 0) := by
  obtain ⟨h1, h2⟩ := h
  rcases h2 with ⟨h2, _⟩ | ⟨g', cap, cur, hv, _, hg, hn, _, hs, ht⟩
  · simp at h2
  · simp only [Value.slice.injEq, Option.some.injEq, Addr.mk.injEq, and_true, true_and] at hv
    obtain ⟨rfl, rfl⟩ := hv
    rw [List.take_of_length_le (by simp [hs])] at ht
    have e : cur = madeCells #[.int .i64 0] n := Array.toList_inj.1 ht
    refine ⟨cur, hg, by omega, fun j hj => ?_⟩
    rw [e]
    simp [madeCells, hj, Nat.mod_one]

theorem Arr.ints {w : World} {B T n : Nat} {f : Nat → Int} (h : Arr w B T n f) : Ints w (some ⟨B, 0, none⟩) ((List.range n).map f) := by
  refine ⟨by simp, fun _ => ⟨B, 0, rfl, fun j u hu => ?_⟩⟩
  have hj : j < n := by have := (List.getElem?_eq_some_iff.1 hu).1; simpa using this
  rw [Nat.zero_add, h.cell j hj]
  simpa [hj] using hu

theorem Arr.below {w w' : World} {B T n : Nat} {f : Nat → Int} (h : Arr w B T n f) (hb : Below w.heap.size w w') : Arr w' B T n f := by
  have hlt := h.lt
  obtain ⟨cs, h1, h2⟩ := h
  exact ⟨cs, (hb.block B hlt).trans h1, h2⟩

theorem Arr.congr {w : World} {B T n : Nat} {f g : Nat → Int} (h : Arr w B T n f) (e : ∀ j, j < n → f j = g j) : Arr w B T n g := by
  obtain ⟨cs, h1, h2, h3⟩ := h
  exact ⟨cs, h1, h2, fun j hj => by rw [h3 j hj, e j hj]⟩

end Go.Proofs.Ythkagcelpdcfkaa
