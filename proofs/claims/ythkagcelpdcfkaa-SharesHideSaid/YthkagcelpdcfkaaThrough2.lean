/- The walk of through. -/
import Derived.Test.YthkagcelpdcfkaaThrough
namespace Go.Proofs.Ythkagcelpdcfkaa
open Go.RowKit

/-- What is known of a term of Lagrange's sum when the points before k have been worked in. -/
structure Term (ps : List (Int × Int)) (i k : Nat) (t : List Int) : Prop where
  len : t.length = 1 + (if i < k then k - 1 else k)
  elems : t.all elemB = true
  own : ∀ p, ps[i]? = some p → phi (evp t p.1) = phi p.2
  zero : ∀ j p, j < k → j ≠ i → ps[j]? = some p → phi (evp t p.1) = 0

theorem Term.start (ps : List (Int × Int)) (hg : Good ps) (i : Nat) (p : Int × Int) (h : ps[i]? = some p) : Term ps i 0 [p.2] :=
  ⟨by simp, by have := (hg.elems p (List.mem_of_getElem? h)).2; simp [this], fun q hq => by
    rw [h] at hq; injection hq with hq; subst hq
    simp only [evp]; rw [phi_emod]; simp, fun j q hj => by omega⟩

theorem Term.skip {ps : List (Int × Int)} {i : Nat} {t : List Int} (h : Term ps i i t) : Term ps i (i + 1) t :=
  ⟨by have := h.len; simp at this ⊢; omega, h.elems, h.own, fun j p hj hne hp => h.zero j p (by omega) hne hp⟩

theorem Term.next {ps : List (Int × Int)} {i k : Nat} {t : List Int} (h : Term ps i k t) (hik : k ≠ i) (q p : Int × Int) (hq : ps[k]? = some q) (hp : ps[i]? = some p) (b mi : Int)
    (hmi : phi mi = - phi q.1) (hb : phi b * (phi p.1 - phi q.1) = 1) : Term ps i (k + 1) (nextL t b mi) := by
  refine ⟨?_, nextL_elem _ _ _, ?_, ?_⟩
  · rw [nextL_length, h.len]; split <;> split <;> omega
  · intro p' hp'
    rw [hp] at hp'; injection hp' with hp'; subst hp'
    rw [phi_ev_next, h.own p hp, hmi]; grind
  · intro j r hj hne hr
    rw [phi_ev_next]
    by_cases hjk : j = k
    · subst hjk
      rw [hq] at hr; injection hr with hr; subst hr
      rw [hmi]; grind
    · rw [h.zero j r (by omega) hne hr]; grind

/-- .. of the sum, when the first i terms have been added. -/
structure SumT (ps : List (Int × Int)) (i : Nat) (o : List Int) : Prop where
  len : o.length = ps.length
  elems : o.all elemB = true
  done : ∀ j p, j < i → ps[j]? = some p → phi (evp o p.1) = phi p.2
  rest : ∀ j p, i ≤ j → ps[j]? = some p → phi (evp o p.1) = 0

def sumL (o t : List Int) : List Int := List.zipWith addm o t

theorem SumT.next {ps : List (Int × Int)} {i : Nat} {o t : List Int} (h : SumT ps i o) (ht : Term ps i ps.length t) (hi : i < ps.length) : SumT ps (i + 1) (sumL o t) := by
  have hl : o.length = t.length := by rw [h.len, ht.len, if_pos hi]; omega
  refine ⟨by simp [sumL, ← hl, h.len], ?_, ?_, ?_⟩
  · rw [List.all_eq_true]
    intro z hz
    obtain ⟨j, hj⟩ := List.getElem?_of_mem hz
    unfold sumL at hj
    rw [List.getElem?_zipWith] at hj
    split at hj
    · simp at hj; rw [← hj]; exact addm_elem _ _
    · cases hj
  · intro j p hj hp
    have hjl : j < ps.length := (List.getElem?_eq_some_iff.1 hp).1
    unfold sumL
    rw [phi_ev_zip _ _ hl]
    by_cases hji : j = i
    · subst hji; rw [h.rest j p (Nat.le_refl _) hp, ht.own p hp]; grind
    · rw [h.done j p (by omega) hp, ht.zero j p hjl hji hp]; grind
  · intro j p hj hp
    have hjl : j < ps.length := (List.getElem?_eq_some_iff.1 hp).1
    unfold sumL
    rw [phi_ev_zip _ _ hl, h.rest j p (by omega) hp, ht.zero j p hjl (by omega) hp]; grind

theorem SumT.start (ps : List (Int × Int)) : SumT ps 0 (List.replicate ps.length 0) := by
  have hz : ∀ n (x : Int), phi (evp (List.replicate n 0) x) = 0 := by
    intro n x
    induction n with
    | zero => rfl
    | succ n ih => rw [List.replicate_succ, evp, phi_emod, phi_add, phi_mul, ih, phi_zero]; grind
  exact ⟨by simp, by rw [List.all_eq_true]; intro z hz; rw [List.eq_of_mem_replicate hz]; rfl, fun j p hj => by omega, fun j p _ _ => hz _ _⟩

/-- The cells of out when k coefficients have been added. -/
def sumF (o t : List Int) (k j : Nat) : Int := if j < k then (sumL o t)[j]?.getD 0 else o[j]?.getD 0

theorem sumF_step (o t : List Int) (k : Nat) (a : Int) (h : t[k]? = some a) (hl : o.length = t.length) (j : Nat) : (if j = k then addm (sumF o t k k) a else sumF o t k j) = sumF o t (k + 1) j := by
  have hk := (List.getElem?_eq_some_iff.1 h).1
  obtain ⟨y, hy⟩ := get_some o k (by omega)
  by_cases h1 : j = k
  · subst h1
    rw [if_pos rfl]
    unfold sumF
    rw [if_neg (by omega), if_pos (by omega)]
    unfold sumL
    rw [List.getElem?_zipWith, hy, h]; rfl
  · rw [if_neg h1]
    unfold sumF
    by_cases h2 : j < k
    · rw [if_pos h2, if_pos (by omega)]
    · rw [if_neg h2, if_neg (by omega)]

theorem sumF_done (o t : List Int) (_hl : o.length = t.length) (j : Nat) (hj : j < o.length) : sumF o t o.length j = (sumL o t)[j]?.getD 0 := by unfold sumF; rw [if_pos hj]
theorem sumF_range (o t : List Int) (ho : o.all elemB = true) (k j : Nat) : 0 ≤ sumF o t k j ∧ sumF o t k j < 2147483647 := by
  unfold sumF
  split
  · cases h : (sumL o t)[j]? with
    | none => simp
    | some y =>
      unfold sumL at h
      rw [List.getElem?_zipWith] at h
      split at h
      · simp at h; rw [← h]; simp only [Option.getD_some, addm]; omega
      · cases h
  · cases h : o[j]? with
    | none => simp
    | some y => have := (elemB_iff y).1 (List.all_eq_true.1 ho y (List.mem_of_getElem? h)); simpa using this

end Go.Proofs.Ythkagcelpdcfkaa
