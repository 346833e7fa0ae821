/- Fermat's little theorem for the prime 2147483647. No program in sight. Lagrange's sum and the sum of powers, as the reference of the field computes them, are Neville's and Horner's values. No program in sight. The reference of layer 6: In, mul, minus, power, all, Eval. The reference of layer 6: Interpolate. -/
import Derived.Test.YtbefcipeojahfaaGreatDoorJoinL
import Derived.Test.YtbefcipeojahfaaGreatDoorShares
import Derived.Test.YtbefcipeojahfaaGreatDoorQuietC
namespace Go.Proofs.YtbefcipeojahfaaGreatDoor

section
/-- The power, by repeated multiplication. -/
def fpw (x : F) : Nat → F
  | 0 => 1
  | n + 1 => fpw x n * x
theorem fpw_add (x : F) (m n : Nat) : fpw x (m + n) = fpw x m * fpw x n := by
  induction n with
  | zero => simp only [Nat.add_zero, fpw]; grind
  | succ n ih => rw [← Nat.add_assoc]; simp only [fpw, ih]; grind
theorem fpw_sq (x : F) (n : Nat) : fpw (x * x) n = fpw x (2 * n) := by
  induction n with
  | zero => rfl
  | succ n ih => rw [show 2 * (n + 1) = 2 * n + 1 + 1 from by omega]; simp only [fpw, ih]; grind
def prodF : List F → F
  | [] => 1
  | a :: l => a * prodF l
theorem prodF_perm {l m : List F} (h : l.Perm m) : prodF l = prodF m := by
  induction h with
  | nil => rfl
  | cons a _ ih => simp only [prodF, ih]
  | swap a b l => simp only [prodF]; grind
  | trans _ _ h1 h2 => rw [h1, h2]
theorem prodF_map (x : F) (l : List F) : prodF (l.map (x * ·)) = fpw x l.length * prodF l := by
  induction l with
  | nil => simp only [List.map_nil, List.length_nil, prodF, fpw]; grind
  | cons a l ih => simp only [List.map_cons, List.length_cons, prodF, fpw, ih]; grind
theorem prodF_ne (l : List F) (h : ∀ a ∈ l, a ≠ 0) : prodF l ≠ 0 := by
  induction l with
  | nil => simp only [prodF]; decide
  | cons a l ih =>
    intro e
    exact ih (fun b hb => h b (List.mem_cons_of_mem _ hb)) (f_cancel _ _ (h a List.mem_cons_self) e)
theorem fermat_gen (n : Nat) (hn : n + 1 = 2147483647) (x : F) (hx : x ≠ 0) : fpw x n = 1 := by
  obtain ⟨L, hL⟩ : ∃ L : List F, L = (List.range n).map (fun i => Fin.ofNat 2147483647 (i + 1)) := ⟨_, rfl⟩
  have hlen : L.length = n := by rw [hL, List.length_map, List.length_range]
  have hnd : L.Nodup := by
    rw [hL, List.Nodup, List.pairwise_map]
    refine List.Pairwise.imp_of_mem ?_ (List.nodup_range (n := n))
    intro a b ha hb hab e
    have h1 := List.mem_range.1 ha
    have h2 := List.mem_range.1 hb
    have h3 := congrArg Fin.val e
    simp only [Fin.ofNat] at h3
    rw [Nat.mod_eq_of_lt (by omega), Nat.mod_eq_of_lt (by omega)] at h3
    omega
  have hmem : ∀ y : F, y ∈ L ↔ y ≠ 0 := by
    intro y
    rw [hL, List.mem_map]
    constructor
    · rintro ⟨i, hi, rfl⟩ e
      have h1 := List.mem_range.1 hi
      have h3 := congrArg Fin.val e
      simp only [Fin.ofNat] at h3
      rw [Nat.mod_eq_of_lt (by omega)] at h3
      exact absurd h3 (Nat.succ_ne_zero _)
    · intro hy
      have h0 : y.val ≠ 0 := fun e => hy (Fin.ext e)
      have h1 := y.isLt
      refine ⟨y.val - 1, List.mem_range.2 (by omega), Fin.ext ?_⟩
      simp only [Fin.ofNat]
      rw [Nat.mod_eq_of_lt (by omega)]
      omega
  obtain ⟨z, hz⟩ := f_inv x hx
  have hp : (L.map (x * ·)).Perm L := by
    refine (List.perm_ext_iff_of_nodup ?_ hnd).2 fun y => ?_
    · rw [List.Nodup, List.pairwise_map]
      refine List.Pairwise.imp ?_ hnd
      intro a b hab e
      exact hab (by
        have h1 : z * (x * a) = z * (x * b) := congrArg (z * ·) e
        have h2 : z * (x * a) = (z * x) * a := by grind
        have h3 : z * (x * b) = (z * x) * b := by grind
        rw [h2, h3, hz] at h1
        have h4 : (1 : F) * a = a := by grind
        have h5 : (1 : F) * b = b := by grind
        rw [h4, h5] at h1
        exact h1)
    · rw [hmem, List.mem_map]
      constructor
      · rintro ⟨a, ha, rfl⟩ e
        exact (hmem a).1 ha (f_cancel _ _ hx e)
      · intro hy
        refine ⟨z * y, (hmem _).2 fun e => ?_, ?_⟩
        · apply hy
          have h1 : x * (z * y) = (z * x) * y := by grind
          rw [e, hz] at h1
          grind
        · have h1 : x * (z * y) = (z * x) * y := by grind
          show x * (z * y) = y
          rw [h1, hz]; grind
  have h1 := prodF_perm hp
  rw [prodF_map, hlen] at h1
  have hne := prodF_ne L (fun a ha => (hmem a).1 ha)
  obtain ⟨u, hu⟩ := f_inv _ hne
  have h2 : (fpw x n * prodF L) * u = prodF L * u := by rw [h1]
  have h3 : (fpw x n * prodF L) * u = fpw x n * (u * prodF L) := by grind
  have h4 : prodF L * u = u * prodF L := by grind
  rw [h3, h4, hu] at h2
  grind
/-- Fermat: the power of p - 2 is the inverse. -/
theorem fermat_inv (n : Nat) (hn : n + 2 = 2147483647) (x : F) (hx : x ≠ 0) : fpw x n * x = 1 := fermat_gen (n + 1) (by omega) x hx
end

section
def ptn (ps : List (Int × Int)) (j : Nat) : Int × Int := ps[j]?.getD (0, 0)
/-- The first k places, but place i. -/
def skp (ps : List (Int × Int)) (i : Nat) : Nat → List F
  | 0 => []
  | k + 1 => if k = i then skp ps i k else skp ps i k ++ [phi (ptn ps k).1]
theorem mem_skp (ps : List (Int × Int)) (i k : Nat) (a : F) : a ∈ skp ps i k ↔ ∃ j, j < k ∧ j ≠ i ∧ a = phi (ptn ps j).1 := by
  induction k with
  | zero => simp [skp]
  | succ k ih =>
    rw [skp]
    by_cases h : k = i
    · rw [if_pos h, ih]
      constructor
      · rintro ⟨j, h1, h2, h3⟩; exact ⟨j, by omega, h2, h3⟩
      · rintro ⟨j, h1, h2, h3⟩; exact ⟨j, by omega, h2, h3⟩
    · rw [if_neg h, List.mem_append, ih, List.mem_singleton]
      constructor
      · rintro (⟨j, h1, h2, h3⟩ | h3)
        · exact ⟨j, by omega, h2, h3⟩
        · exact ⟨k, by omega, h, h3⟩
      · rintro ⟨j, h1, h2, h3⟩
        by_cases hj : j = k
        · subst hj; exact .inr h3
        · exact .inl ⟨j, by omega, h2, h3⟩
theorem length_skp (ps : List (Int × Int)) (i k : Nat) : (skp ps i k).length ≤ k ∧ (i < k → (skp ps i k).length + 1 = k) := by
  induction k with
  | zero => simp [skp]
  | succ k ih =>
    rw [skp]
    by_cases h : k = i
    · rw [if_pos h]
      refine ⟨by omega, fun _ => ?_⟩
      have h2 : ∀ m, m ≤ i → (skp ps i m).length = m := by
        intro m
        induction m with
        | zero => intro _; rfl
        | succ m ihm => intro hm; rw [skp, if_neg (by omega), List.length_append, List.length_singleton, ihm (by omega)]
      rw [h2 k (by omega)]
    · rw [if_neg h, List.length_append, List.length_singleton]
      exact ⟨by omega, fun hi => by have := ih.2 (by omega); omega⟩

/-- Lagrange's sum of the first k terms. -/
def lagS (ps : List (Int × Int)) (u : Nat → F) (x : F) : Nat → F
  | 0 => 0
  | k + 1 => lagS ps u x k + phi (ptn ps k).2 * prd x (skp ps k ps.length) * u k
theorem lagS_poly (ps : List (Int × Int)) (u : Nat → F) (k : Nat) (hk : k ≤ ps.length) : ∃ C : List F, C.length ≤ ps.length ∧ ∀ x, ev C x = lagS ps u x k := by
  induction k with
  | zero => exact ⟨[], Nat.zero_le _, fun x => rfl⟩
  | succ k ih =>
    obtain ⟨C, h1, h2⟩ := ih (by omega)
    refine ⟨addP C ((zeroP (skp ps k ps.length)).map ((phi (ptn ps k).2 * u k) * ·)), length_addP _ _ _ h1 ?_, fun x => ?_⟩
    · rw [List.length_map]
      have h3 := length_zeroP (skp ps k ps.length)
      have h4 := (length_skp ps k ps.length).2 (by omega)
      omega
    · rw [ev_addP, ev_smul, ev_zeroP, h2, lagS]; grind
theorem lagS_node (ps : List (Int × Int)) (u : Nat → F) (hu : ∀ i, i < ps.length → u i * prd (phi (ptn ps i).1) (skp ps i ps.length) = 1) (j : Nat) (hj : j < ps.length) (k : Nat) (hk : k ≤ ps.length) :
    lagS ps u (phi (ptn ps j).1) k = if j < k then phi (ptn ps j).2 else 0 := by
  induction k with
  | zero => rw [if_neg (by omega)]; rfl
  | succ k ih =>
    rw [lagS, ih (by omega)]
    by_cases h : j = k
    · subst h
      rw [if_neg (by omega), if_pos (by omega)]
      have := hu j hj
      have e : phi (ptn ps j).2 * prd (phi (ptn ps j).1) (skp ps j ps.length) * u j = phi (ptn ps j).2 * (u j * prd (phi (ptn ps j).1) (skp ps j ps.length)) := by grind
      rw [e, this]; grind
    · rw [prd_zero _ _ ((mem_skp ps k ps.length _).2 ⟨j, hj, h, rfl⟩)]
      by_cases h2 : j < k
      · rw [if_pos h2, if_pos (by omega)]; grind
      · rw [if_neg h2, if_neg (by omega)]; grind
theorem lag_nv (ps : List (Int × Int)) (hg : Good ps) (u : Nat → F) (hu : ∀ i, i < ps.length → u i * prd (phi (ptn ps i).1) (skp ps i ps.length) = 1) (x : Int) (h0 : 0 < ps.length) :
    phi (nv x ps (ps.length - 1) 0) = lagS ps u (phi x) ps.length := by
  obtain ⟨C, h1, h2⟩ := lagS_poly ps u ps.length (Nat.le_refl _)
  rw [nv_ev ps hg C (fun p hp => ?_) x h1 h0, h2]
  obtain ⟨j, hj⟩ := List.mem_iff_getElem?.1 hp
  have hjl := (List.getElem?_eq_some_iff.1 hj).1
  have e : ptn ps j = p := by unfold ptn; rw [hj]; rfl
  have h3 := lagS_node ps u hu j hjl ps.length (Nat.le_refl _)
  rw [if_pos hjl, e] at h3
  rw [h2, h3]

/-- What the reference's loops hold: 'above', 'below' behind the first k points, the sum behind the first k terms. -/
def abv (ps : List (Int × Int)) (x : Int) (i : Nat) (y : Int) : Nat → Int
  | 0 => y
  | k + 1 => if k = i then abv ps x i y k else abv ps x i y k * mns x (ptn ps k).1 % 2147483647
theorem phi_abv (ps : List (Int × Int)) (x : Int) (i : Nat) (y : Int) (k : Nat) : phi (abv ps x i y k) = phi y * prd (phi x) (skp ps i k) := by
  induction k with
  | zero => simp only [abv, skp, prd]; grind
  | succ k ih =>
    rw [abv, skp]
    by_cases h : k = i
    · rw [if_pos h, if_pos h, ih]
    · rw [if_neg h, if_neg h, phi_emod, phi_mul, phi_mns, ih, prd_append]
      simp only [prd]; grind
theorem abv_range (ps : List (Int × Int)) (x : Int) (i : Nat) (y : Int) (h0 : 0 ≤ y) (h1 : y < 2147483647) (k : Nat) : 0 ≤ abv ps x i y k ∧ abv ps x i y k < 2147483647 := by
  induction k with
  | zero => exact ⟨h0, h1⟩
  | succ k ih =>
    rw [abv]
    split
    · exact ih
    · omega
/-- The power as the reference has it, an element. -/
def ipw (a : Int) (n : Nat) : Int := ((fpw (phi a) n).val : Int)
theorem phi_ipw (a : Int) (n : Nat) : phi (ipw a n) = fpw (phi a) n := by
  apply Fin.ext
  have := (fpw (phi a) n).isLt
  show (((fpw (phi a) n).val : Int) % 2147483647).toNat = _
  omega
theorem ipw_range (a : Int) (n : Nat) : 0 ≤ ipw a n ∧ ipw a n < 2147483647 := by
  have := (fpw (phi a) n).isLt
  unfold ipw; omega
def rsm (ps : List (Int × Int)) (x : Int) : Nat → Int
  | 0 => 0
  | k + 1 => (rsm ps x k + abv ps x k (ptn ps k).2 ps.length * ipw (abv ps (ptn ps k).1 k 1 ps.length) 2147483645 % 2147483647) % 2147483647
theorem rsm_range (ps : List (Int × Int)) (x : Int) (k : Nat) : 0 ≤ rsm ps x k ∧ rsm ps x k < 2147483647 := by
  cases k with
  | zero => exact ⟨Int.le_refl _, show (0 : Int) < 2147483647 by omega⟩
  | succ k => rw [rsm]; omega
theorem rsm_nv (ps : List (Int × Int)) (hg : Good ps) (x : Int) (h0 : 0 < ps.length) : rsm ps x ps.length = nv x ps (ps.length - 1) 0 := by
  obtain ⟨e, he⟩ : ∃ e, e = 2147483645 := ⟨_, rfl⟩
  have hnode : ∀ i, i < ps.length → ∀ a, a ∈ skp ps i ps.length → phi (ptn ps i).1 ≠ a := by
    intro i hi a ha
    obtain ⟨j, h1, h2, rfl⟩ := (mem_skp ps i ps.length a).1 ha
    obtain ⟨p, hp⟩ := get_some ps i hi
    obtain ⟨q, hq⟩ := get_some ps j h1
    have e1 : ptn ps i = p := by unfold ptn; rw [hp]; rfl
    have e2 : ptn ps j = q := by unfold ptn; rw [hq]; rfl
    rw [e1, e2]
    have r1 := (elemB_iff _).1 (hg.elems p (List.mem_of_getElem? hp)).1
    have r2 := (elemB_iff _).1 (hg.elems q (List.mem_of_getElem? hq)).1
    refine phi_ne r1.1 r1.2 r2.1 r2.2 fun h => ?_
    have n1 : (ps.map (·.1))[i]? = some p.1 := by rw [List.getElem?_map, hp]; rfl
    have n2 : (ps.map (·.1))[j]? = some q.1 := by rw [List.getElem?_map, hq]; rfl
    obtain ⟨l1, g1⟩ := List.getElem?_eq_some_iff.1 n1
    obtain ⟨l2, g2⟩ := List.getElem?_eq_some_iff.1 n2
    exact h2 ((List.getElem_inj hg.nodup (h₀ := l2) (h₁ := l1)).1 (by rw [g1, g2, h]))
  have hu : ∀ i, i < ps.length → fpw (prd (phi (ptn ps i).1) (skp ps i ps.length)) e * prd (phi (ptn ps i).1) (skp ps i ps.length) = 1 := fun i hi =>
    fermat_inv e (by omega) _ (prd_ne _ _ (hnode i hi))
  have h1 := lag_nv ps hg (fun i => fpw (prd (phi (ptn ps i).1) (skp ps i ps.length)) e) hu x h0
  have h2 : ∀ k, phi (rsm ps x k) = lagS ps (fun i => fpw (prd (phi (ptn ps i).1) (skp ps i ps.length)) e) (phi x) k := by
    intro k
    induction k with
    | zero => rfl
    | succ k ih =>
      rw [rsm, lagS, phi_emod, phi_add, ih, phi_emod, phi_mul, ← he, phi_ipw, phi_abv, phi_abv, phi_one]
      congr 3
      grind
  have r1 := rsm_range ps x ps.length
  have r2 := nv_range x ps hg.elems (ps.length - 1) 0
  exact phi_inj r1.1 r1.2 r2.1 r2.2 (by rw [h2, h1])
/-- The reference's evaluation: the sum of the first k terms. -/
def evs (l : List Int) (x : Int) : Nat → Int
  | 0 => 0
  | k + 1 => (evs l x k + (l[k]?.getD 0) * ipw x k % 2147483647) % 2147483647
theorem ev_snoc (l : List F) (c x : F) : ev (l ++ [c]) x = ev l x + c * fpw x l.length := by
  induction l with
  | nil => simp only [List.nil_append, ev, List.length_nil, fpw]; grind
  | cons a l ih => simp only [List.cons_append, ev, ih, List.length_cons, fpw]; grind
theorem evs_range (l : List Int) (x : Int) (k : Nat) : 0 ≤ evs l x k ∧ evs l x k < 2147483647 := by
  cases k with
  | zero => exact ⟨Int.le_refl _, show (0 : Int) < 2147483647 by omega⟩
  | succ k => rw [evs]; omega
theorem phi_evs (l : List Int) (x : Int) (k : Nat) (hk : k ≤ l.length) : phi (evs l x k) = ev ((l.take k).map phi) (phi x) := by
  induction k with
  | zero => rfl
  | succ k ih =>
    obtain ⟨a, ha⟩ := get_some l k (by omega)
    rw [evs, phi_emod, phi_add, phi_emod, phi_mul, phi_ipw, ih (by omega), ha, take_snoc l k a ha, List.map_append, List.map_singleton, ev_snoc, List.length_map, List.length_take, Nat.min_eq_left (by omega)]
    rfl
theorem evs_evp (l : List Int) (x : Int) : evs l x l.length = evp l x := by
  have r1 := evs_range l x l.length
  have r2 := evp_range l x
  exact phi_inj r1.1 r1.2 r2.1 r2.2 (by rw [phi_evs l x l.length (Nat.le_refl _), List.take_length, phi_evp])
/-- The power by squaring: what the loop of 'power' keeps. -/
theorem pow_even (o a : F) (n : Nat) (h : n % 2 = 0) : o * fpw a n = o * fpw (a * a) (n / 2) := by
  rw [fpw_sq, show 2 * (n / 2) = n from by omega]
theorem pow_odd (o a : F) (n : Nat) (h : n % 2 = 1) : o * fpw a n = o * a * fpw (a * a) (n / 2) := by
  rw [fpw_sq]
  have e : n = 2 * (n / 2) + 1 := by omega
  have h2 : fpw a n = fpw a (2 * (n / 2)) * a := by rw [e]; simp only [fpw]; congr 2; omega
  rw [h2]; grind
end

section
open Go.RowKit

theorem rin_any (a : Int) (w : World) :
    Calls Tryz.prog 52 #[.int .i64 a] w fun e w' => e = .returned (.bool (elemB a)) ∧ w = w' := by
  by_cases h0 : 0 ≤ a
  · by_cases h1 : a < 2147483647
    · have h2 : a ≤ 2147483646 := by omega
      go_enter Tryz.func52, Tryz.ntmps52
      go_wp2
      go_ret
      exact ⟨by simp [elemB, h0, h1], rfl⟩
    · have h2 : ¬ a ≤ 2147483646 := by omega
      go_enter Tryz.func52, Tryz.ntmps52
      go_wp2
      go_ret
      exact ⟨by simp [elemB, h0, h1], rfl⟩
  · go_enter Tryz.func52, Tryz.ntmps52
    go_wp2
    go_ret
    exact ⟨by simp [elemB]; omega, rfl⟩

theorem rmul_any (a b : Int) (w : World) (ha : 0 ≤ a) (ha' : a ≤ 2147483647) (hb : 0 ≤ b) (hb' : b ≤ 2147483647) :
    Calls Tryz.prog 53 #[.int .i64 a, .int .i64 b] w fun e w' => e = .returned (.int .i64 (a * b % 2147483647)) ∧ w = w' := by
  obtain ⟨h0, h1⟩ := mul_range a b ha ha' hb hb'
  have ht : (a * b).tmod 2147483647 = a * b % 2147483647 := Int.tmod_eq_emod_of_nonneg h0
  go_enter Tryz.func53, Tryz.ntmps53
  go_wp2
  go_ret
  exact ⟨rfl, rfl⟩

theorem rminus_any (a b : Int) (w : World) (ha : 0 ≤ a) (ha' : a ≤ 2147483647) (hb : 0 ≤ b) (hb' : b ≤ 2147483647) :
    Calls Tryz.prog 56 #[.int .i64 a, .int .i64 b] w fun e w' => e = .returned (.int .i64 (mns a b)) ∧ w = w' := by
  have h0 : 0 ≤ a - b + 2147483647 := by omega
  have ht : (a - b + 2147483647).tmod 2147483647 = mns a b := Int.tmod_eq_emod_of_nonneg h0
  go_enter Tryz.func56, Tryz.ntmps56
  go_wp2
  go_ret
  exact ⟨rfl, rfl⟩

set_option maxRecDepth 100000 in
set_option maxHeartbeats 4000000 in
theorem rpower_any (a : Int) (n : Nat) (w : World) (ha : 0 ≤ a) (ha' : a < 2147483647) (hn : n ≤ 2147483647) :
    Calls Tryz.prog 54 #[.int .i64 a, .int .i64 n] w fun e w' => e = .returned (.int .i64 (ipw a n)) ∧ w = w' := by
  have HM : Hid (∀ x y : Int, 0 ≤ x → x < 2147483647 → 0 ≤ y → y < 2147483647 → Calls Tryz.prog 53 #[.int .i64 x, .int .i64 y] w fun e w' => e = .returned (.int .i64 (x * y % 2147483647)) ∧ w = w') := Lib.hid (fun x y h1 h2 h3 h4 => rmul_any x y w h1 (by omega) h3 (by omega))
  obtain ⟨P, hP⟩ : ∃ P, fpw (phi a) n = P := ⟨_, rfl⟩
  have hres : ∀ o : Int, 0 ≤ o → o < 2147483647 → phi o = P → o = ipw a n := fun o h1 h2 h3 => by
    have r := ipw_range a n
    exact phi_inj h1 h2 r.1 r.2 (by rw [phi_ipw, hP, h3])
  have HRES := Lib.hid hres
  have HP := Lib.hid hP
  have hst : phi 1 * fpw (phi a) n = P := by rw [phi_one, hP]; grind
  have HST := Lib.hid hst
  clear hres hP hst
  go_enter Tryz.func54, Tryz.ntmps54
  go_wp2_with fail
  go_loop [0, 1, 5] (fun u0 u1 u5 => ∃ (x o : Int) (k : Nat), u0 = .int .i64 x ∧ u1 = .int .i64 k ∧ u5 = .int .i64 o ∧ 0 ≤ x ∧ x < 2147483647 ∧ 0 ≤ o ∧ o < 2147483647 ∧ k ≤ 2147483647 ∧ phi o * fpw (phi x) k = P) (fun _ u1 _ => (intOf u1).toNat)
  case atStart => exact ⟨a, 1, n, rfl, rfl, rfl, ha, ha', by omega, by omega, hn, HST.out⟩
  case round =>
    obtain ⟨x, o, k, rfl, rfl, rfl, x0, x1, o0, o1, hk, hp⟩ := hrel
    have HPK := Lib.hid hp
    clear hp
    by_cases hk0 : 0 < k
    · have hki : (0 : Int) < (k : Int) := by omega
      have hdiv : (k : Int).tdiv 2 = ((k / 2 : Nat) : Int) := by rw [Int.tdiv_eq_ediv_of_nonneg (by omega)]; omega
      by_cases hodd : k % 2 = 1
      · have hrm : (k : Int).tmod 2 = 1 := by rw [Int.tmod_eq_emod_of_nonneg (by omega)]; omega
        have hnew : phi (o * x % 2147483647) * fpw (phi (x * x % 2147483647)) (k / 2) = P := by
          rw [phi_emod, phi_mul, phi_emod, phi_mul, ← pow_odd _ _ _ hodd]; exact HPK.out
        have HNEW := Lib.hid hnew
        clear hnew
        go_wp2_with fail
        refine (HM.out o x o0 o1 x0 x1).mono ?_
        rintro e _ ⟨rfl, rfl⟩
        go_wp2_with fail
        refine (HM.out x x x0 x1 x0 x1).mono ?_
        rintro e _ ⟨rfl, rfl⟩
        go_wp2
        go_round
        case rel => exact ⟨x * x % 2147483647, o * x % 2147483647, k / 2, rfl, by go_num, rfl, by omega, by omega, by omega, by omega, by omega, HNEW.out⟩
        case measure => simp [intOf]; omega
      · have hrm : (k : Int).tmod 2 = 0 := by rw [Int.tmod_eq_emod_of_nonneg (by omega)]; omega
        have hnew : phi o * fpw (phi (x * x % 2147483647)) (k / 2) = P := by
          rw [phi_emod, phi_mul, ← pow_even _ _ _ (by omega)]; exact HPK.out
        have HNEW := Lib.hid hnew
        clear hnew
        go_wp2_with fail
        refine (HM.out x x x0 x1 x0 x1).mono ?_
        rintro e _ ⟨rfl, rfl⟩
        go_wp2
        go_round
        case rel => exact ⟨x * x % 2147483647, o, k / 2, rfl, by go_num, rfl, by omega, by omega, o0, o1, by omega, HNEW.out⟩
        case measure => simp [intOf]; omega
    · obtain rfl : k = 0 := by omega
      have ho : o = ipw a n := HRES.out o o0 o1 (by have := HPK.out; simp only [fpw] at this; rw [← this]; grind)
      have HO := Lib.hid ho
      clear ho
      go_wp2
      go_ret
      exact ⟨ret_int HO.out, rfl⟩

set_option maxHeartbeats 4000000 in
theorem rall_any (A : Option Addr) (c : Nat) (l : List Int) (w : World) (h : Ints w A l) (hl : l.length ≤ 9223372036854775807) :
    Calls Tryz.prog 51 #[.slice A l.length c] w fun e w' => e = .returned (.bool (l.all elemB)) ∧ w = w' := by
  have H := Lib.hid h
  have HIS := Lib.hid (fun (x : Int) => rin_any x w)
  clear h
  go_enter Tryz.func51, Tryz.ntmps51
  go_wp2_with fail
  go_loop [3] (fun u => ∃ k : Nat, k ≤ l.length ∧ u = .int .i64 k ∧ (l.take k).all elemB = true) (fun u => l.length - (intOf u).toNat)
  case atStart => exact ⟨0, Nat.zero_le _, rfl, rfl⟩
  case round =>
    obtain ⟨k, hk, rfl, hall⟩ := hrel
    have HALL := Lib.hid hall
    clear hall
    by_cases hlt : k < l.length
    · obtain ⟨s, hs⟩ := get_some l k hlt
      obtain ⟨b, off, rfl, c0⟩ := H.out.at_ hs
      have c0l := lt_of_cell c0
      have HC := Lib.hid (HIS.out s)
      have HS := Lib.hid hs
      clear hs
      obtain ⟨v, hv⟩ : ∃ v, elemB s = v := ⟨_, rfl⟩
      rw [hv] at HC
      have HV := Lib.hid hv
      clear hv
      cases v with
      | true =>
        go_wp2_with fail
        refine HC.out.mono ?_
        rintro e _ ⟨rfl, rfl⟩
        go_wp2
        go_round
        case rel => exact ⟨k + 1, by omega, by go_num, by rw [all_take_succ _ _ _ _ HS.out, HALL.out, HV.out]; rfl⟩
        case measure => simp [intOf]; omega
      | false =>
        have HBD := Lib.hid (all_false_of elemB l k s HS.out HV.out)
        go_wp2_with fail
        refine HC.out.mono ?_
        rintro e _ ⟨rfl, rfl⟩
        go_wp2
        go_ret
        exact ⟨ret_bool HBD.out.symm, rfl⟩
    · obtain rfl : k = l.length := by omega
      rw [List.take_length] at HALL
      go_wp2
      go_ret
      exact ⟨ret_bool HALL.out.symm, rfl⟩

set_option maxRecDepth 100000 in
set_option maxHeartbeats 8000000 in
theorem reval_any (A : Option Addr) (c : Nat) (l : List Int) (x : Int) (w : World) (h : Ints w A l) (hl : l.length ≤ 16) (hall : l.all elemB = true) (hx : elemB x = true) :
    Calls Tryz.prog 29 #[.slice A l.length c, .int .i64 x] w fun e w' => e = .returned (.tuple #[.int .i64 (evp l x), .int .i64 0]) ∧ Below w.heap.size w w' := by
  have HA := Lib.hid (rall_any A c l w h (by omega))
  rw [hall] at HA
  have HIX := Lib.hid (rin_any x w)
  rw [hx] at HIX
  have H := Lib.hid h
  obtain ⟨x0, x1⟩ := (elemB_iff x).1 hx
  have HE : Hid (∀ (k : Nat) (a : Int), l[k]? = some a → 0 ≤ a ∧ a < 2147483647) := Lib.hid (fun k a hk => (elemB_iff a).1 (List.all_eq_true.1 hall a (List.mem_of_getElem? hk)))
  have HPW : Hid (∀ (k : Nat) (W : World), k ≤ 2147483647 → Calls Tryz.prog 54 #[.int .i64 x, .int .i64 k] W fun e w' => e = .returned (.int .i64 (ipw x k)) ∧ Below W.heap.size W w') := Lib.hid (fun k W hk => (rpower_any x k W x0 x1 hk).mono fun _ _ ⟨he, hw⟩ => ⟨he, hw ▸ Below.refl _ _⟩)
  have hd : decide (16 < l.length) = false := decide_eq_false (by omega)
  have hd2 : decide ((16 : Int) < (l.length : Int)) = false := decide_eq_false (by omega)
  clear h hall hx
  go_enter Tryz.func29, Tryz.ntmps29
  go_wp2_with fail
  refine HA.out.mono ?_
  rintro e _ ⟨rfl, rfl⟩
  go_wp2_with fail
  refine HIX.out.mono ?_
  rintro e _ ⟨rfl, rfl⟩
  go_wp2_with fail
  go_loopw [6, 7] (fun u6 u7 wr => ∃ k : Nat, k ≤ l.length ∧ u7 = .int .i64 k ∧ u6 = .int .i64 (evs l x k) ∧ Below w.heap.size w wr) (fun _ u7 _ => l.length - (intOf u7).toNat)
  case atStart => exact ⟨0, Nat.zero_le _, rfl, rfl, Below.refl _ _⟩
  case round =>
  obtain ⟨k, hk, rfl, rfl, hb⟩ := hrel
  have HB := Lib.hid hb
  clear hb
  by_cases hlt : k < l.length
  · obtain ⟨a, ha⟩ := get_some l k hlt
    obtain ⟨b, off, rfl, c0⟩ := (H.out.below HB.out).at_ ha
    have HCELL : Hid (∀ W, Below wr.heap.size wr W → W.cell? ⟨b, off + k, none⟩ = some (.int .i64 a)) := Lib.hid (fun W hW => kept_cell hW c0)
    obtain ⟨a0, a1⟩ := HE.out k a ha
    obtain ⟨p0, p1⟩ := ipw_range x k
    obtain ⟨s0, s1⟩ := evs_range l x k
    have hki : (k : Int) < (l.length : Int) := by omega
    have hnew : evs l x (k + 1) = (evs l x k + a * ipw x k % 2147483647) % 2147483647 := by
      rw [evs, ha]; rfl
    have HNEW := Lib.hid hnew
    have HP1 := Lib.hid (fun W (hW : Below wr.heap.size wr W) => (HPW.out k W (by omega)).mono fun _ _ ⟨he, hb⟩ => (⟨he, below_trans hW hb⟩ : _ ∧ Below wr.heap.size wr _))
    have HM1 := Lib.hid (fun W (hW : Below wr.heap.size wr W) => (rmul_any a (ipw x k) W a0 (by omega) p0 (by omega)).mono fun _ _ ⟨he, hw⟩ => (⟨he, hw ▸ hW⟩ : _ ∧ Below wr.heap.size wr _))
    have m0 : 0 ≤ a * ipw x k % 2147483647 := by omega
    have m1 : a * ipw x k % 2147483647 < 2147483647 := by omega
    clear ha c0 hnew a0 a1 p0 p1
    generalize a * ipw x k % 2147483647 = pr at *
    generalize ipw x k = pw at *
    generalize evs l x k = S at *
    have hwr : IntKind.i64.wrap (S + pr) = S + pr := by rw [IntWalk.i64_in _ (by omega)]
    have htm : (S + pr).tmod 2147483647 = (S + pr) % 2147483647 := Int.tmod_eq_emod_of_nonneg (by omega)
    go_wp2_with fail
    refine wp_region_belowC (by kernel_rfl) (by kernel_rfl) (fun WQ HQS HQN => ?_)
    refine HQS.go (fun K hK => ?_)
    go_simp
    apply Exists.intro
    refine ⟨fun W hW => ?_, hK _ ?_⟩
    · (try go_simp)
      exact rfl
    clear hK K
    refine HQS.go (fun K hK => ?_)
    go_simp
    apply Exists.intro
    refine ⟨fun W hW => ?_, hK _ ?_⟩
    · (try go_simp)
      exact rfl
    clear hK K
    refine HQS.go (fun K hK => ?_)
    go_simp
    apply Exists.intro
    refine ⟨fun W hW => ?_, hK _ ?_⟩
    · (try go_simp)
      exact rfl
    clear hK K
    refine HQS.go (fun K hK => ?_)
    go_simp
    apply Exists.intro
    refine ⟨fun W hW => ?_, hK _ ?_⟩
    · (try go_simp)
      exact rfl
    clear hK K
    refine HQS.go (fun K hK => ?_)
    go_simp
    apply Exists.intro
    refine ⟨fun W hW => ?_, hK _ ?_⟩
    · have qq := HCELL.out W hW
      have ql := lt_of_cell qq
      go_simp
      exact rfl
    clear hK K
    refine HQS.go (fun K hK => ?_)
    go_simp
    apply Exists.intro
    refine ⟨fun W hW => ?_, hK _ ?_⟩
    · (try go_simp)
      exact rfl
    clear hK K
    refine HQS.go (fun K hK => ?_)
    go_simp
    apply Exists.intro
    refine ⟨fun W hW => ?_, hK _ ?_⟩
    · (try go_simp)
      exact rfl
    clear hK K
    refine HQS.go (fun K hK => ?_)
    go_simp
    apply Exists.intro
    refine ⟨fun W hW => ?_, hK _ ?_⟩
    · exact HP1.out W hW
    clear hK K
    refine HQS.go (fun K hK => ?_)
    go_simp
    apply Exists.intro
    refine ⟨fun W hW => ?_, hK _ ?_⟩
    · exact HM1.out W hW
    clear hK K
    refine HQS.go (fun K hK => ?_)
    go_simp
    apply Exists.intro
    refine ⟨fun W hW => ?_, hK _ ?_⟩
    · (try go_simp)
      exact rfl
    clear hK K
    refine HQS.go (fun K hK => ?_)
    go_simp
    apply Exists.intro
    refine ⟨fun W hW => ?_, hK _ ?_⟩
    · (try go_simp)
      exact rfl
    clear hK K
    refine HQS.go (fun K hK => ?_)
    go_simp
    apply Exists.intro
    refine ⟨fun W hW => ?_, hK _ ?_⟩
    · (try go_simp)
      exact rfl
    clear hK K
    refine HQN.go ?_
    intro W hW
    have HB2 := Lib.hid (below_trans HB.out hW)
    clear hW
    go_wp2_with fail
    go_roundw
    case rel => exact ⟨k + 1, by omega, by go_num, by rw [HNEW.out], HB2.out⟩
    case measure => simp [intOf]; omega
  · obtain rfl : k = l.length := by omega
    have he := evs_evp l x
    have HEV := Lib.hid he
    clear he
    go_wp2
    go_ret2
    exact ⟨by (try rw [HEV.out]); rfl, HB.out⟩
end

section
open Go.RowKit

set_option maxRecDepth 100000 in
set_option maxHeartbeats 16000000 in
theorem rinterp_any (A : Option Addr) (cap : Nat) (ps : List (Int × Int)) (x : Int) (w : World) (hc : Prs w A ps) (h1 : 1 ≤ ps.length) (h16 : ps.length ≤ 16) (hx : elemB x = true) (hg : Good ps) :
    Calls Tryz.prog 33 #[.slice A ps.length cap, .int .i64 x] w fun e w' => e = .returned (.tuple #[.int .i64 (nv x ps (ps.length - 1) 0), .int .i64 0]) ∧ Below w.heap.size w w' := by
  have hres := rsm_nv ps hg x (by omega)
  rw [← hres]
  obtain ⟨x0, x1⟩ := (elemB_iff x).1 hx
  obtain ⟨b, off, rfl, -⟩ := hc.2 (by omega)
  have HIN := Lib.hid (fun (a : Int) W => rin_any a W)
  have HIX := Lib.hid (rin_any x w)
  rw [hx] at HIX
  have HC : Hid (∀ k p, ps[k]? = some p → ∀ W, Below w.heap.size w W → W.cell? ⟨b, off + k * 2, none⟩ = some (.int .i64 p.1) ∧ W.cell? ⟨b, off + k * 2 + 1, none⟩ = some (.int .i64 p.2)) := Lib.hid (fun k p hk W hW => by
    obtain ⟨b', off', e, q1, q2⟩ := hc.at_ hk
    cases e
    exact ⟨kept_cell hW q1, kept_cell hW q2⟩)
  have HE : Hid (∀ (k : Nat) (p : Int × Int), ps[k]? = some p → elemB p.1 = true ∧ elemB p.2 = true) := Lib.hid (fun k p hk => hg.elems p (List.mem_of_getElem? hk))
  have HND : Hid (∀ (k i : Nat) (p q : Int × Int), ps[k]? = some p → ps[i]? = some q → k ≠ i → p.1 ≠ q.1) := Lib.hid (fun k i p q hk hi hne h => by
    have n1 : (ps.map (·.1))[k]? = some p.1 := by rw [List.getElem?_map, hk]; rfl
    have n2 : (ps.map (·.1))[i]? = some q.1 := by rw [List.getElem?_map, hi]; rfl
    obtain ⟨l1, g1⟩ := List.getElem?_eq_some_iff.1 n1
    obtain ⟨l2, g2⟩ := List.getElem?_eq_some_iff.1 n2
    exact hne ((List.getElem_inj hg.nodup (h₀ := l1) (h₁ := l2)).1 (by rw [g1, g2, h])))
  have HPT : Hid (∀ (k : Nat) (p : Int × Int), ps[k]? = some p → ptn ps k = p) := Lib.hid (fun k p hk => by unfold ptn; rw [hk]; rfl)
  obtain ⟨n, hn⟩ : ∃ n, ps.length = n := ⟨_, rfl⟩
  have HGET : Hid (∀ k, k < n → ∃ p, ps[k]? = some p) := Lib.hid (fun k hk => get_some ps k (by omega))
  have HN := Lib.hid hn
  have HRS : Hid (∀ k, rsm ps x (k + 1) = (rsm ps x k + abv ps x k (ptn ps k).2 n * ipw (abv ps (ptn ps k).1 k 1 n) 2147483645 % 2147483647) % 2147483647) := Lib.hid (fun k => by rw [rsm, hn])
  have HAB : Hid (∀ z i y k, abv ps z i y (k + 1) = if k = i then abv ps z i y k else abv ps z i y k * mns z (ptn ps k).1 % 2147483647) := Lib.hid (fun z i y k => rfl)
  have HAR := Lib.hid (abv_range ps)
  have HRR := Lib.hid (rsm_range ps x)
  have HPW : Hid (∀ (a : Int) (W : World), 0 ≤ a → a < 2147483647 → Calls Tryz.prog 54 #[.int .i64 a, .int .i64 2147483645] W fun e w' => e = .returned (.int .i64 (ipw a 2147483645)) ∧ W = w') := Lib.hid (fun a W h0 h1 => rpower_any a 2147483645 W h0 h1 (by omega))
  rw [hn] at h1 h16 ⊢
  have hd1 : decide (n < 1) = false := decide_eq_false (by omega)
  have hd2 : decide (16 < n) = false := decide_eq_false (by omega)
  have hd3 : decide ((n : Int) < 1) = false := decide_eq_false (by omega)
  have hd4 : decide ((16 : Int) < (n : Int)) = false := decide_eq_false (by omega)
  clear hc hg hx hres hn
  go_enter Tryz.func33, Tryz.ntmps33
  go_wp2_with fail
  refine HIX.out.mono ?_
  rintro e _ ⟨rfl, rfl⟩
  go_wp2_with fail
  go_loop [6] (fun u => ∃ k : Nat, k ≤ n ∧ u = .int .i64 k) (fun u => n - (intOf u).toNat)
  case atStart => exact ⟨0, Nat.zero_le _, rfl⟩
  case round =>
  obtain ⟨k, hk, rfl⟩ := hrel
  by_cases hlt : k < n
  case pos =>
    obtain ⟨p, hp⟩ := HGET.out k hlt
    obtain ⟨q1, q2⟩ := HC.out k p hp w (Below.refl _ _)
    obtain ⟨e1, e2⟩ := HE.out k p hp
    have ql := lt_of_cell q1
    have HI1 := Lib.hid (HIN.out p.1 w)
    have HI2 := Lib.hid (HIN.out p.2 w)
    rw [e1] at HI1
    rw [e2] at HI2
    have hki : (k : Int) < (n : Int) := by omega
    clear hp e1 e2
    go_wp2_with fail
    refine HI1.out.mono ?_
    rintro e _ ⟨rfl, rfl⟩
    go_wp2_with fail
    refine HI2.out.mono ?_
    rintro e _ ⟨rfl, rfl⟩
    go_wp2
    go_round
    case rel => exact ⟨k + 1, by omega, by go_num⟩
    case measure => simp [intOf]; omega
  case neg =>
  obtain rfl : k = n := by omega
  go_wp2_with fail
  go_loopw [7, 8, 9, 10, 11] (fun u7 u8 _ _ _ wr => ∃ i : Nat, i ≤ k ∧ u8 = .int .i64 i ∧ u7 = .int .i64 (rsm ps x i) ∧ Below w.heap.size w wr) (fun _ u8 _ _ _ _ => k - (intOf u8).toNat)
  case atStart => exact ⟨0, Nat.zero_le _, rfl, rfl, Below.refl _ _⟩
  case round =>
  obtain ⟨i, hi, rfl, rfl, hb⟩ := hrel
  have HB := Lib.hid hb
  clear hb
  by_cases hil : i < k
  case neg =>
    obtain rfl : i = k := by omega
    go_wp2
    go_ret2
    exact ⟨rfl, HB.out⟩
  case pos =>
  obtain ⟨p, hp⟩ := HGET.out i hil
  have HPI := Lib.hid hp
  have hptn := HPT.out i p hp
  obtain ⟨e1, e2⟩ := HE.out i p hp
  obtain ⟨a0, a1⟩ := (elemB_iff _).1 e1
  obtain ⟨c0, c1⟩ := (elemB_iff _).1 e2
  obtain ⟨q1, q2⟩ := HC.out i p hp wr HB.out
  have ql := lt_of_cell q1
  have hki : (i : Int) < (k : Int) := by omega
  have hrs := HRS.out i
  rw [hptn] at hrs
  have HRS1 := Lib.hid hrs
  clear hp hptn e1 e2 hrs
  generalize wr = wi at *
  go_wp2_with fail
  clear q1 q2 ql
  go_loopw [9, 10, 11] (fun u9 u10 u11 W => ∃ j : Nat, j ≤ k ∧ u11 = .int .i64 j ∧ u9 = .int .i64 (abv ps x i p.2 j) ∧ u10 = .int .i64 (abv ps p.1 i 1 j) ∧ Below w.heap.size w W) (fun _ _ u11 _ => k - (intOf u11).toNat)
  case atStart => exact ⟨0, Nat.zero_le _, rfl, rfl, rfl, HB.out⟩
  case round =>
  obtain ⟨j, hj, rfl, rfl, rfl, hb⟩ := hrel
  have HBJ := Lib.hid hb
  clear hb
  by_cases hjl : j < k
  case neg =>
    obtain rfl : j = k := by omega
    obtain ⟨m0, m1⟩ := HAR.out x i p.2 c0 c1 j
    obtain ⟨n0, n1⟩ := HAR.out p.1 i 1 (by omega) (by omega) j
    obtain ⟨s0, s1⟩ := HRR.out i
    have HNEW := Lib.hid HRS1.out
    generalize hU : abv ps x i p.2 j = U at *
    generalize hV : abv ps p.1 i 1 j = V at *
    have HP1 := Lib.hid (HPW.out V wr n0 n1)
    obtain ⟨p0, p1⟩ := ipw_range V 2147483645
    have HM1 := Lib.hid (rmul_any U (ipw V 2147483645) wr m0 (by omega) p0 (by omega))
    have r0 : 0 ≤ U * ipw V 2147483645 % 2147483647 := by omega
    have r1 : U * ipw V 2147483645 % 2147483647 < 2147483647 := by omega
    generalize U * ipw V 2147483645 % 2147483647 = pr at *
    generalize ipw V 2147483645 = pw at *
    generalize hS : rsm ps x i = S at *
    have hwr : IntKind.i64.wrap (S + pr) = S + pr := by rw [IntWalk.i64_in _ (by omega)]
    have htm : (S + pr).tmod 2147483647 = (S + pr) % 2147483647 := Int.tmod_eq_emod_of_nonneg (by omega)
    clear hU hV m0 m1 n0 n1 p0 p1
    go_wp2_with fail
    refine HP1.out.mono ?_
    rintro e _ ⟨rfl, rfl⟩
    go_wp2_with fail
    refine HM1.out.mono ?_
    rintro e _ ⟨rfl, rfl⟩
    go_wp2_with fail
    go_roundw
    case rel => exact ⟨i + 1, by omega, by go_num, by rw [HNEW.out], HBJ.out⟩
    case measure => simp [intOf]; omega
  case pos =>
  have hji : (j : Int) < (k : Int) := by omega
  by_cases hij : j = i
  case pos =>
    have hn1 := HAB.out x i p.2 j
    have hn2 := HAB.out p.1 i 1 j
    rw [if_pos hij] at hn1 hn2
    have HN1 := Lib.hid hn1
    have HN2 := Lib.hid hn2
    have he : ((j : Int) == (i : Int)) = true := by simp; omega
    clear hn1 hn2 hij
    go_wp2_with fail
    go_roundw
    case rel => exact ⟨j + 1, by omega, by go_num, by rw [HN1.out], by rw [HN2.out], HBJ.out⟩
    case measure => simp [intOf]; omega
  case neg =>
  obtain ⟨q, hq⟩ := HGET.out j hjl
  have hne := HND.out j i q p hq HPI.out hij
  obtain ⟨e1, e2⟩ := HE.out j q hq
  obtain ⟨d0, d1⟩ := (elemB_iff _).1 e1
  have hn1 := HAB.out x i p.2 j
  have hn2 := HAB.out p.1 i 1 j
  rw [if_neg hij, HPT.out j q hq] at hn1 hn2
  have HN1 := Lib.hid hn1
  have HN2 := Lib.hid hn2
  have hnij : ((j : Int) == (i : Int)) = false := by simp; omega
  have hqp : (q.1 == p.1) = false := by simpa using hne
  have HQJ := Lib.hid (HC.out j q hq)
  have HQI := Lib.hid (HC.out i p HPI.out)
  obtain ⟨m0, m1⟩ := HAR.out x i p.2 c0 c1 j
  obtain ⟨n0, n1⟩ := HAR.out p.1 i 1 (by omega) (by omega) j
  generalize abv ps x i p.2 j = U at *
  generalize abv ps p.1 i 1 j = V at *
  obtain ⟨g0, g1⟩ := mns_range x q.1
  obtain ⟨h0, h2⟩ := mns_range p.1 q.1
  have HMI := Lib.hid (fun W => rminus_any x q.1 W x0 (by omega) d0 (by omega))
  have HMU := Lib.hid (fun W => rmul_any U (mns x q.1) W m0 (by omega) g0 (by omega))
  have HMI2 := Lib.hid (fun W => rminus_any p.1 q.1 W a0 (by omega) d0 (by omega))
  have HMU2 := Lib.hid (fun W => rmul_any V (mns p.1 q.1) W n0 (by omega) h0 (by omega))
  generalize wr = wj at *
  clear hn1 hn2 hq hne e1 e2 hij m0 m1 n0 n1 g0 g1 h0 h2
  generalize U * mns x q.1 % 2147483647 = U2 at *
  generalize V * mns p.1 q.1 % 2147483647 = V2 at *
  generalize mns x q.1 = m1 at *
  generalize mns p.1 q.1 = m2 at *
  go_wp2_with fail
  refine wp_region_belowC (by kernel_rfl) (by kernel_rfl) (fun WQ HQS HQN => ?_)
  refine HQS.go (fun K hK => ?_)
  go_simp
  apply Exists.intro
  refine ⟨fun W hW => ?_, hK _ ?_⟩
  · (try go_simp)
    exact rfl
  clear hK K
  refine HQS.go (fun K hK => ?_)
  go_simp
  apply Exists.intro
  refine ⟨fun W hW => ?_, hK _ ?_⟩
  · (try go_simp)
    exact rfl
  clear hK K
  refine HQS.go (fun K hK => ?_)
  go_simp
  apply Exists.intro
  refine ⟨fun W hW => ?_, hK _ ?_⟩
  · (try go_simp)
    exact rfl
  clear hK K
  refine HQS.go (fun K hK => ?_)
  go_simp
  apply Exists.intro
  refine ⟨fun W hW => ?_, hK _ ?_⟩
  · (try go_simp)
    exact rfl
  clear hK K
  refine HQS.go (fun K hK => ?_)
  go_simp
  apply Exists.intro
  refine ⟨fun W hW => ?_, hK _ ?_⟩
  · obtain ⟨q1, q2⟩ := HQJ.out W (below_trans HBJ.out hW)
    have ql := lt_of_cell q1
    go_simp
    exact rfl
  clear hK K
  refine HQS.go (fun K hK => ?_)
  go_simp
  apply Exists.intro
  refine ⟨fun W hW => ?_, hK _ ?_⟩
  · (try go_simp)
    exact rfl
  clear hK K
  refine HQS.go (fun K hK => ?_)
  go_simp
  apply Exists.intro
  refine ⟨fun W hW => ?_, hK _ ?_⟩
  · (try go_simp)
    exact rfl
  clear hK K
  refine HQS.go (fun K hK => ?_)
  go_simp
  apply Exists.intro
  refine ⟨fun W hW => ?_, hK _ ?_⟩
  · (try go_simp)
    exact rfl
  clear hK K
  refine HQS.go (fun K hK => ?_)
  go_simp
  apply Exists.intro
  refine ⟨fun W hW => ?_, hK _ ?_⟩
  · (try go_simp)
    exact rfl
  clear hK K
  refine HQS.go (fun K hK => ?_)
  go_simp
  apply Exists.intro
  refine ⟨fun W hW => ?_, hK _ ?_⟩
  · obtain ⟨q1, q2⟩ := HQI.out W (below_trans HBJ.out hW)
    have ql := lt_of_cell q1
    go_simp
    exact rfl
  clear hK K
  refine HQS.go (fun K hK => ?_)
  go_simp
  apply Exists.intro
  refine ⟨fun W hW => ?_, hK _ ?_⟩
  · (try go_simp)
    exact rfl
  clear hK K
  refine HQN.go ?_
  intro w7 hW
  have HB7 := Lib.hid (below_trans HBJ.out hW)
  clear hW
  obtain ⟨q1, q2⟩ := HQJ.out w7 HB7.out
  have ql := lt_of_cell q1
  go_wp2_with fail
  refine (HMI.out w7).mono ?_
  rintro e _ ⟨rfl, rfl⟩
  go_wp2_with fail
  refine (HMU.out w7).mono ?_
  rintro e _ ⟨rfl, rfl⟩
  clear q1 q2 ql
  go_wp2_with fail
  refine wp_region_belowC (by kernel_rfl) (by kernel_rfl) (fun WQ HQS HQN => ?_)
  refine HQS.go (fun K hK => ?_)
  go_simp
  apply Exists.intro
  refine ⟨fun W hW => ?_, hK _ ?_⟩
  · (try go_simp)
    exact rfl
  clear hK K
  refine HQS.go (fun K hK => ?_)
  go_simp
  apply Exists.intro
  refine ⟨fun W hW => ?_, hK _ ?_⟩
  · (try go_simp)
    exact rfl
  clear hK K
  refine HQS.go (fun K hK => ?_)
  go_simp
  apply Exists.intro
  refine ⟨fun W hW => ?_, hK _ ?_⟩
  · (try go_simp)
    exact rfl
  clear hK K
  refine HQS.go (fun K hK => ?_)
  go_simp
  apply Exists.intro
  refine ⟨fun W hW => ?_, hK _ ?_⟩
  · (try go_simp)
    exact rfl
  clear hK K
  refine HQS.go (fun K hK => ?_)
  go_simp
  apply Exists.intro
  refine ⟨fun W hW => ?_, hK _ ?_⟩
  · (try go_simp)
    exact rfl
  clear hK K
  refine HQS.go (fun K hK => ?_)
  go_simp
  apply Exists.intro
  refine ⟨fun W hW => ?_, hK _ ?_⟩
  · obtain ⟨q1, q2⟩ := HQI.out W (below_trans HB7.out hW)
    have ql := lt_of_cell q1
    go_simp
    exact rfl
  clear hK K
  refine HQS.go (fun K hK => ?_)
  go_simp
  apply Exists.intro
  refine ⟨fun W hW => ?_, hK _ ?_⟩
  · (try go_simp)
    exact rfl
  clear hK K
  refine HQS.go (fun K hK => ?_)
  go_simp
  apply Exists.intro
  refine ⟨fun W hW => ?_, hK _ ?_⟩
  · (try go_simp)
    exact rfl
  clear hK K
  refine HQS.go (fun K hK => ?_)
  go_simp
  apply Exists.intro
  refine ⟨fun W hW => ?_, hK _ ?_⟩
  · (try go_simp)
    exact rfl
  clear hK K
  refine HQS.go (fun K hK => ?_)
  go_simp
  apply Exists.intro
  refine ⟨fun W hW => ?_, hK _ ?_⟩
  · (try go_simp)
    exact rfl
  clear hK K
  refine HQS.go (fun K hK => ?_)
  go_simp
  apply Exists.intro
  refine ⟨fun W hW => ?_, hK _ ?_⟩
  · obtain ⟨q1, q2⟩ := HQJ.out W (below_trans HB7.out hW)
    have ql := lt_of_cell q1
    go_simp
    exact rfl
  clear hK K
  refine HQS.go (fun K hK => ?_)
  go_simp
  apply Exists.intro
  refine ⟨fun W hW => ?_, hK _ ?_⟩
  · exact (HMI2.out W).mono fun _ _ ⟨he, hw⟩ => ⟨he, hw ▸ hW⟩
  clear hK K
  refine HQS.go (fun K hK => ?_)
  go_simp
  apply Exists.intro
  refine ⟨fun W hW => ?_, hK _ ?_⟩
  · exact (HMU2.out W).mono fun _ _ ⟨he, hw⟩ => ⟨he, hw ▸ hW⟩
  clear hK K
  refine HQS.go (fun K hK => ?_)
  go_simp
  apply Exists.intro
  refine ⟨fun W hW => ?_, hK _ ?_⟩
  · (try go_simp)
    exact rfl
  clear hK K
  refine HQN.go ?_
  intro w8 hW
  have HB8 := Lib.hid (below_trans HB7.out hW)
  clear hW
  go_wp2_with fail
  go_roundw
  case rel => exact ⟨j + 1, by omega, by go_num, by rw [HN1.out], by rw [HN2.out], HB8.out⟩
  case measure => simp [intOf]; omega

  
end

end Go.Proofs.YtbefcipeojahfaaGreatDoor
