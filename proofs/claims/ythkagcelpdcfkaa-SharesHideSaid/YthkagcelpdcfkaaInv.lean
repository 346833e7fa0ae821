/- The contract of field.inverse: the inverse modulo the prime 2147483647. -/
import Derived.Test.YthkagcelpdcfkaaField
namespace Go.Proofs.Ythkagcelpdcfkaa
open Go.RowKit

/-! ### Plain: the prime, gcd -/
theorem no_div : ((List.range 46341).all fun d => decide (d < 2) || decide (2147483647 % d ≠ 0)) = true := by decide +kernel

theorem prime_dvd (g : Nat) (h : g ∣ 2147483647) : g = 1 ∨ g = 2147483647 := by
  have nd : ∀ d, d < 46341 → 2 ≤ d → ¬ d ∣ 2147483647 := by
    intro d hd h2 hdv
    have h := List.all_eq_true.1 no_div d (List.mem_range.2 hd)
    simp only [ne_eq, Bool.or_eq_true, decide_eq_true_eq] at h
    rcases h with h | h
    · omega
    · exact h (Nat.mod_eq_zero_of_dvd hdv)
  obtain ⟨k, hk⟩ := h
  by_cases hg : g < 46341
  · by_cases h2 : 2 ≤ g
    · exact absurd ⟨k, hk⟩ (nd g hg h2)
    · have : g = 0 ∨ g = 1 := by omega
      rcases this with rfl | rfl
      · omega
      · exact Or.inl rfl
  · by_cases hk2 : k < 46341
    · by_cases h2 : 2 ≤ k
      · exact absurd ⟨g, by rw [Nat.mul_comm]; exact hk⟩ (nd k hk2 h2)
      · have : k = 0 ∨ k = 1 := by omega
        rcases this with rfl | rfl
        · omega
        · exact Or.inr (by omega)
    · have h1 : 46341 * 46341 ≤ g * k := Nat.mul_le_mul (by omega) (by omega)
      omega

theorem gcd_one (a : Int) (h0 : 0 < a) (h1 : a < 2147483647) : Int.gcd 2147483647 a = 1 := by
  have hd : Int.gcd 2147483647 a ∣ 2147483647 := by
    have := Int.gcd_dvd_left (a := 2147483647) (b := a)
    have h2 := Int.ofNat_dvd.1 (show ((Int.gcd 2147483647 a : Nat) : Int) ∣ ((2147483647 : Nat) : Int) from this)
    exact h2
  have hle : Int.gcd 2147483647 a ≤ a.natAbs := Nat.le_of_dvd (by omega) (Int.gcd_dvd_natAbs_right 2147483647 a)
  rcases prime_dvd _ hd with h | h
  · exact h
  · omega

/-- What Euclid's loop keeps. -/
structure Eu (a r s u v : Int) : Prop where
  r0 : 0 < r
  u0 : 0 ≤ u
  rp : r ≤ 2147483647
  up : u ≤ 2147483647
  sl : -2147483647 ≤ s ∧ s ≤ 2147483647
  vl : -2147483647 ≤ v ∧ v ≤ 2147483647
  cr : ∃ k, r = s * a + k * 2147483647
  cu : ∃ k, u = v * a + k * 2147483647
  gc : Int.gcd r u = Int.gcd 2147483647 a
  sg : (0 ≤ s ∧ v ≤ 0 ∧ u * s - r * v = 2147483647) ∨ (s ≤ 0 ∧ 0 ≤ v ∧ r * v - u * s = 2147483647)

theorem Eu.start (a : Int) (h : 0 < a) (h' : a < 2147483647) : Eu a 2147483647 0 a 1 :=
  ⟨by omega, by omega, by omega, by omega, by omega, by omega, ⟨1, by omega⟩, ⟨0, by omega⟩, rfl, Or.inr ⟨by omega, by omega, by omega⟩⟩

theorem mul_ge_self (u x : Int) (hu : 0 < u) (hx : 0 ≤ x) : x ≤ u * x := by
  have := Int.mul_le_mul_of_nonneg_right (show 1 ≤ u by omega) hx
  omega

theorem Eu.next {a r s u v : Int} (h : Eu a r s u v) (hu : 0 < u) : Eu a u v (r - r / u * u) (s - r / u * v) := by
  obtain ⟨r0, u0, rp, up, sl, vl, ⟨k1, cr⟩, ⟨k2, cu⟩, gc, sg⟩ := h
  have hm : r - r / u * u = r % u := by rw [Int.emod_def, Int.mul_comm]
  have hq : 0 ≤ r / u := Int.ediv_nonneg (by omega) u0
  have hm0 : 0 ≤ r % u := Int.emod_nonneg _ (by omega)
  have hm1 : r % u < u := Int.emod_lt_of_pos _ hu
  have g : Int.gcd u (r - r / u * u) = Int.gcd 2147483647 a := by rw [← gc, Int.gcd_sub_mul_right_right, Int.gcd_comm]
  rw [hm] at g
  rw [hm]
  have sg' : (0 ≤ v ∧ s - r / u * v ≤ 0 ∧ r % u * v - u * (s - r / u * v) = 2147483647) ∨ (v ≤ 0 ∧ 0 ≤ s - r / u * v ∧ u * (s - r / u * v) - r % u * v = 2147483647) := by
    rw [← hm]
    generalize r / u = q at *
    rcases sg with ⟨h1, h2, h3⟩ | ⟨h1, h2, h3⟩
    · refine Or.inr ⟨h2, ?_, ?_⟩
      · have := Int.mul_nonneg hq (show 0 ≤ -v by omega)
        rw [Int.mul_neg] at this; omega
      · rw [← h3]; grind
    · refine Or.inl ⟨h2, ?_, ?_⟩
      · have := Int.mul_nonneg hq h2; omega
      · rw [← h3]; grind
  have vl' : -2147483647 ≤ s - r / u * v ∧ s - r / u * v ≤ 2147483647 := by
    generalize s - r / u * v = v' at *
    rcases sg' with ⟨h1, h2, h3⟩ | ⟨h1, h2, h3⟩
    · have a1 := Int.mul_nonneg hm0 h1
      have a2 := mul_ge_self u (-v') hu (by omega)
      rw [Int.mul_neg] at a2; omega
    · have a1 := Int.mul_nonneg hm0 (show 0 ≤ -v by omega)
      rw [Int.mul_neg] at a1
      have a2 := mul_ge_self u v' hu h2
      omega
  refine ⟨hu, hm0, up, by omega, vl, vl', ⟨k2, cu⟩, ⟨k1 - r / u * k2, by rw [← hm]; generalize r / u = q at *; rw [cr, cu]; grind⟩, g, sg'⟩

theorem Eu.bounds {a r s u v : Int} (h : Eu a r s u v) (hu : 0 < u) : 0 ≤ r / u ∧ r / u ≤ 2147483647 ∧ 0 ≤ r / u * u ∧ r / u * u ≤ 2147483647 ∧ -4294967294 ≤ r / u * v ∧ r / u * v ≤ 4294967294 := by
  have hn := h.next hu
  have hq : 0 ≤ r / u := Int.ediv_nonneg (by have := h.r0; omega) h.u0
  have hqu : r / u ≤ r := Int.ediv_le_self _ (by have := h.r0; omega)
  have h1 := Int.mul_nonneg hq h.u0
  have h2 := hn.u0
  have h3 := hn.vl
  have h4 := h.sl
  have h5 := h.rp
  omega

/-- Its end: what the loop hands back is the inverse. -/
theorem Eu.fin {a r s v : Int} (h : Eu a r s 0 v) (ha : 0 < a) (ha' : a < 2147483647) : (s % 2147483647) * a % 2147483647 = 1 := by
  have g := h.gc
  rw [gcd_one a ha ha', Int.gcd_zero] at g
  have hr : r = 1 := by have := h.r0; omega
  obtain ⟨k, hk⟩ := h.cr
  have : s * a = 1 + (-k) * 2147483647 := by omega
  rw [Int.mul_emod, Int.emod_emod_of_dvd _ (Int.dvd_refl _), ← Int.mul_emod, this, Int.add_mul_emod_self_right]
  rfl

/-- The inverse of an element that isn't 0. -/
noncomputable def invp (a : Int) : Int := by
  classical exact if h : ∃ r : Int, 0 ≤ r ∧ r < 2147483647 ∧ r * a % 2147483647 = 1 then h.choose else 0

theorem inv_unique (a r r' : Int) (h0 : 0 ≤ r) (h1 : r < 2147483647) (h : r * a % 2147483647 = 1) (h0' : 0 ≤ r') (h1' : r' < 2147483647) (h' : r' * a % 2147483647 = 1) : r = r' := by
  have e1 : r * a * r' % 2147483647 = r' % 2147483647 := by rw [Int.mul_emod, h]; simp
  have e2 : r' * a * r % 2147483647 = r % 2147483647 := by rw [Int.mul_emod, h']; simp
  have e3 : r * a * r' = r' * a * r := by grind
  rw [e3, e2] at e1
  rw [Int.emod_eq_of_lt h0 h1, Int.emod_eq_of_lt h0' h1'] at e1
  exact e1

theorem invp_eq (a r : Int) (h0 : 0 ≤ r) (h1 : r < 2147483647) (h : r * a % 2147483647 = 1) : invp a = r := by
  unfold invp
  have hex : ∃ r : Int, 0 ≤ r ∧ r < 2147483647 ∧ r * a % 2147483647 = 1 := ⟨r, h0, h1, h⟩
  rw [dif_pos hex]
  obtain ⟨g0, g1, g2⟩ := hex.choose_spec
  exact inv_unique a _ _ g0 g1 g2 h0 h1 h

theorem inv_exists (a : Int) (ha : 0 < a) (ha' : a < 2147483647) : ∀ (n : Nat) (r s u v : Int), Eu a r s u v → u.toNat ≤ n → ∃ q : Int, 0 ≤ q ∧ q < 2147483647 ∧ q * a % 2147483647 = 1 := by
  intro n
  induction n with
  | zero =>
    intro r s u v h hu
    have hu0 := h.u0
    obtain rfl : u = 0 := by omega
    exact ⟨s % 2147483647, by omega, by omega, h.fin ha ha'⟩
  | succ n ih =>
    intro r s u v h hu
    by_cases h0 : 0 < u
    · have hn := h.next h0
      have hm : r - r / u * u = r % u := by rw [Int.emod_def, Int.mul_comm]
      have hlt := Int.emod_lt_of_pos r h0
      have hge := hn.u0
      exact ih _ _ _ _ hn (by omega)
    · have hu0 := h.u0
      obtain rfl : u = 0 := by omega
      exact ⟨s % 2147483647, by omega, by omega, h.fin ha ha'⟩

theorem invp_spec (a : Int) (ha : 0 < a) (ha' : a < 2147483647) : 0 ≤ invp a ∧ invp a < 2147483647 ∧ invp a * a % 2147483647 = 1 := by
  obtain ⟨q, q0, q1, q2⟩ := inv_exists a ha ha' _ _ _ _ _ (Eu.start a ha ha') (Nat.le_refl _)
  rw [invp_eq a q q0 q1 q2]
  exact ⟨q0, q1, q2⟩

theorem tmod_fin (s : Int) (h : -2147483647 ≤ s) (h' : s ≤ 2147483647) : (s.tmod 2147483647 + 2147483647) % 2147483647 = s % 2147483647 ∧ -2147483647 < s.tmod 2147483647 ∧ s.tmod 2147483647 < 2147483647 := by
  by_cases hs : 0 ≤ s
  · rw [Int.tmod_eq_emod_of_nonneg hs]; omega
  · have e : s.tmod 2147483647 = -((-s) % 2147483647) := by
      rw [← Int.tmod_eq_emod_of_nonneg (show 0 ≤ -s by omega), Int.neg_tmod, Int.neg_neg]
    rw [e]; omega

set_option maxHeartbeats 400000 in
theorem inverse_any (a : Int) (w : World) (h0 : 0 < a) (h1 : a < 2147483647) :
    Calls Try.prog 27 #[.int .i64 a] w fun e w' => (e = .returned (.int .i64 (invp a)) ∧ 0 ≤ invp a ∧ invp a < 2147483647 ∧ invp a * a % 2147483647 = 1) ∧ w = w' := by
  go_enter Try.func27, Try.ntmps27
  go_wp2
  go_loop [3, 4, 5, 6] (fun tr ts tu tv => ∃ r s u v : Int, tr = .int .i64 r ∧ ts = .int .i64 s ∧ tu = .int .i64 u ∧ tv = .int .i64 v ∧ Eu a r s u v) (fun _ _ tu _ => (intOf tu).toNat)
  case atStart => exact ⟨_, _, _, _, rfl, rfl, rfl, rfl, Eu.start a h0 h1⟩
  case round =>
    obtain ⟨r, s, u, v, rfl, rfl, rfl, rfl, hE⟩ := hrel
    have HE := Lib.hid hE
    obtain ⟨r0, u0, rp, up, ⟨sl, sl'⟩, ⟨vl, vl'⟩, -, -, -, -⟩ := hE
    by_cases hu : 0 < u
    · obtain ⟨b1, b2, b3, b4, b5, b6⟩ := HE.out.bounds hu
      go_wp2
      go_round
      case rel => exact ⟨_, _, _, _, rfl, rfl, rfl, rfl, HE.out.next hu⟩
      case measure =>
        have h1 := (HE.out.next hu).u0
        have h2 : r - r / u * u < u := by
          have : r - r / u * u = r % u := by rw [Int.emod_def, Int.mul_comm]
          rw [this]; exact Int.emod_lt_of_pos _ hu
        simp [intOf]; omega
    · obtain rfl : u = 0 := by omega
      obtain ⟨t1, t2, t3⟩ := tmod_fin s sl sl'
      have T1 : Hid (s.tmod 2147483647 % 2147483647 = s % 2147483647) := Lib.hid (by omega); clear t1
      go_wp2
      go_ret
      have hb0 : 0 ≤ s % 2147483647 := by omega
      have hb1 : s % 2147483647 < 2147483647 := by omega
      have hf := HE.out.fin h0 h1
      have e := invp_eq a _ hb0 hb1 hf
      rw [e]
      exact ⟨⟨ret_int T1.out, hb0, hb1, hf⟩, rfl⟩

end Go.Proofs.Ythkagcelpdcfkaa
