/- Several texts in one: Field, Inv, Eval, Join1, Arr, Interp. Contracts of package shares: element, valid, the two methods at. The string of a share, in the program and in the reference; the reference's Element, Valid. The contract of shares.Split on valid arguments. The contract of shares.Join, at every list. Several texts in one: Poly, Poly2, JoinL. The law SharesRecover: its walk. Fermat's little theorem for the prime 2147483647. No program in sight. Lagrange's sum and the sum of powers, as the reference of the field computes them, are Neville's and Horner's values. No program in sight. -/
import Derived.Test.YtjfondfjdhjooaaGreatDoorCbC
import Derived.Maps.OwnOps
import Derived.Maps.Views
namespace Go.Proofs.YtjfondfjdhjooaaGreatDoor
set_option linter.unusedVariables false
set_option linter.unusedSimpArgs false

section
section
open Go.RowKit

def elemB (a : Int) : Bool := decide (0 ≤ a) && decide (a < 2147483647)

theorem element_any (a : Int) (w : World) :
    Calls Tryz.prog 145 #[.int .i64 a] w fun e w' => e = .returned (.bool (elemB a)) ∧ w = w' := by
  by_cases h0 : 0 ≤ a
  · by_cases h1 : a < 2147483647
    · go_enter Tryz.func145, Tryz.ntmps145
      go_wp2
      go_ret
      exact ⟨by simp [elemB, h0, h1], rfl⟩
    · go_enter Tryz.func145, Tryz.ntmps145
      go_wp2
      go_ret
      exact ⟨by simp [elemB, h0, h1], rfl⟩
  · go_enter Tryz.func145, Tryz.ntmps145
    go_wp2
    go_ret
    exact ⟨by simp [elemB]; omega, rfl⟩

set_option maxHeartbeats 400000 in
theorem elements_any (A : Option Addr) (c : Nat) (xs : List Int) (w : World) (hv : Ints w A xs) (hmax : xs.length ≤ 9223372036854775807) :
    Calls Tryz.prog 119 #[.slice A xs.length c] w fun e w' => e = .returned (.bool (xs.all elemB)) ∧ w = w' := by
  have HV := Lib.hid hv; clear hv
  go_enter Tryz.func119, Tryz.ntmps119
  go_wp2
  go_loop [7] (fun i => ∃ k : Nat, k ≤ xs.length ∧ i = .int .i64 k ∧ (xs.take k).all elemB = true) (fun i => xs.length - (intOf i).toNat)
  case atStart => exact ⟨0, Nat.zero_le _, rfl, rfl⟩
  case round =>
    obtain ⟨k, hk, rfl, hall⟩ := hrel
    have HALL := Lib.hid hall; clear hall
    by_cases hlt : k < xs.length
    · obtain ⟨x, hx⟩ := get_some xs k hlt
      obtain ⟨b, off, rfl, hcell⟩ := HV.out.at_ hx
      have HX := Lib.hid hx; clear hx
      cases hb : elemB x
      · go_wp2_with (go_at_call 145; refine (element_any _ _).mono ?_; rintro e w' ⟨rfl, rfl⟩)
        go_ret
        exact ⟨ret_bool (all_false_of elemB xs k x HX.out hb).symm, rfl⟩
      · go_wp2_with (go_at_call 145; refine (element_any _ _).mono ?_; rintro e w' ⟨rfl, rfl⟩)
        go_round
        case rel => exact ⟨k + 1, by omega, by go_num, by rw [all_take_succ elemB xs k x HX.out, HALL.out, hb]; rfl⟩
        case measure => simp [intOf]; omega
    · have hk' : xs.length ≤ k := by omega
      go_wp2
      go_ret
      exact ⟨ret_bool (by rw [← HALL.out, List.take_of_length_le hk']), rfl⟩

/-- A difference modulo the prime. -/
def mns (a b : Int) : Int := (a - b + 2147483647) % 2147483647

theorem mns_range (a b : Int) : 0 ≤ mns a b ∧ mns a b < 2147483647 := by unfold mns; omega

theorem mul_range (a b : Int) (ha : 0 ≤ a) (ha' : a ≤ 2147483647) (hb : 0 ≤ b) (hb' : b ≤ 2147483647) : 0 ≤ a * b ∧ a * b ≤ 4611686014132420609 :=
  ⟨Int.mul_nonneg ha hb, Int.le_trans (Int.mul_le_mul ha' hb' hb (by omega)) (by decide)⟩

theorem minus_any (a b : Int) (w : World) (ha : 0 ≤ a) (ha' : a ≤ 2147483647) (hb : 0 ≤ b) (hb' : b ≤ 2147483647) :
    Calls Tryz.prog 174 #[.int .i64 a, .int .i64 b] w fun e w' => e = .returned (.int .i64 (mns a b)) ∧ w = w' := by
  go_enter Tryz.func174, Tryz.ntmps174
  go_wp2
  go_ret
  exact ⟨rfl, rfl⟩

theorem Ints_two (w : World) (T : Nat) (a b : Int) : Ints (w.alloc (.cells #[.int .i64 a, .int .i64 b] T)) (some ⟨w.heap.size, 0, none⟩) [a, b] := by
  refine ⟨rfl, fun _ => ⟨_, _, rfl, fun j u hu => ?_⟩⟩
  rw [World.cell?_alloc_at _ _ _ _ rfl]
  match j, hu with
  | 0, hu => simp at hu; simp [hu]
  | 1, hu => simp at hu; simp [hu]
end

section
open Go.RowKit

/-! ### Plain: the prime, gcd -/
theorem no_div : ((List.range 46341).all fun d => decide (d < 2) || decide (2147483647 % d ≠ 0)) = true := by decide +kernel

theorem prime_dvd (g : Nat) (h : g ∣ 2147483647) : g = 1 ∨ g = 2147483647 := by
  have nd : ∀ d, d < 46341 → 2 ≤ d → ¬ d ∣ 2147483647 := by
    intro d hd h2 hdv
    have h := List.all_eq_true.1 no_div d (List.mem_range.2 hd)
    simp only [ne_eq, Bool.or_eq_true, decide_eq_true_eq] at h
    rcases h with h | h
    · omega
    · exact h (Nat.mod_eq_zero_of_dvd hdv)
  obtain ⟨k, hk⟩ := h
  by_cases hg : g < 46341
  · by_cases h2 : 2 ≤ g
    · exact absurd ⟨k, hk⟩ (nd g hg h2)
    · have : g = 0 ∨ g = 1 := by omega
      rcases this with rfl | rfl
      · omega
      · exact Or.inl rfl
  · by_cases hk2 : k < 46341
    · by_cases h2 : 2 ≤ k
      · exact absurd ⟨g, by rw [Nat.mul_comm]; exact hk⟩ (nd k hk2 h2)
      · have : k = 0 ∨ k = 1 := by omega
        rcases this with rfl | rfl
        · omega
        · exact Or.inr (by omega)
    · have h1 : 46341 * 46341 ≤ g * k := Nat.mul_le_mul (by omega) (by omega)
      omega

theorem gcd_one (a : Int) (h0 : 0 < a) (h1 : a < 2147483647) : Int.gcd 2147483647 a = 1 := by
  have hd : Int.gcd 2147483647 a ∣ 2147483647 := by
    have := Int.gcd_dvd_left (a := 2147483647) (b := a)
    have h2 := Int.ofNat_dvd.1 (show ((Int.gcd 2147483647 a : Nat) : Int) ∣ ((2147483647 : Nat) : Int) from this)
    exact h2
  have hle : Int.gcd 2147483647 a ≤ a.natAbs := Nat.le_of_dvd (by omega) (Int.gcd_dvd_natAbs_right 2147483647 a)
  rcases prime_dvd _ hd with h | h
  · exact h
  · omega

/-- What Euclid's loop keeps. -/
structure Eu (a r s u v : Int) : Prop where
  r0 : 0 < r
  u0 : 0 ≤ u
  rp : r ≤ 2147483647
  up : u ≤ 2147483647
  sl : -2147483647 ≤ s ∧ s ≤ 2147483647
  vl : -2147483647 ≤ v ∧ v ≤ 2147483647
  cr : ∃ k, r = s * a + k * 2147483647
  cu : ∃ k, u = v * a + k * 2147483647
  gc : Int.gcd r u = Int.gcd 2147483647 a
  sg : (0 ≤ s ∧ v ≤ 0 ∧ u * s - r * v = 2147483647) ∨ (s ≤ 0 ∧ 0 ≤ v ∧ r * v - u * s = 2147483647)

theorem Eu.start (a : Int) (h : 0 < a) (h' : a < 2147483647) : Eu a 2147483647 0 a 1 :=
  ⟨by omega, by omega, by omega, by omega, by omega, by omega, ⟨1, by omega⟩, ⟨0, by omega⟩, rfl, Or.inr ⟨by omega, by omega, by omega⟩⟩

theorem mul_ge_self (u x : Int) (hu : 0 < u) (hx : 0 ≤ x) : x ≤ u * x := by
  have := Int.mul_le_mul_of_nonneg_right (show 1 ≤ u by omega) hx
  omega

theorem Eu.next {a r s u v : Int} (h : Eu a r s u v) (hu : 0 < u) : Eu a u v (r - r / u * u) (s - r / u * v) := by
  obtain ⟨r0, u0, rp, up, sl, vl, ⟨k1, cr⟩, ⟨k2, cu⟩, gc, sg⟩ := h
  have hm : r - r / u * u = r % u := by rw [Int.emod_def, Int.mul_comm]
  have hq : 0 ≤ r / u := Int.ediv_nonneg (by omega) u0
  have hm0 : 0 ≤ r % u := Int.emod_nonneg _ (by omega)
  have hm1 : r % u < u := Int.emod_lt_of_pos _ hu
  have g : Int.gcd u (r - r / u * u) = Int.gcd 2147483647 a := by rw [← gc, Int.gcd_sub_mul_right_right, Int.gcd_comm]
  rw [hm] at g
  rw [hm]
  have sg' : (0 ≤ v ∧ s - r / u * v ≤ 0 ∧ r % u * v - u * (s - r / u * v) = 2147483647) ∨ (v ≤ 0 ∧ 0 ≤ s - r / u * v ∧ u * (s - r / u * v) - r % u * v = 2147483647) := by
    rw [← hm]
    generalize r / u = q at *
    rcases sg with ⟨h1, h2, h3⟩ | ⟨h1, h2, h3⟩
    · refine Or.inr ⟨h2, ?_, ?_⟩
      · have := Int.mul_nonneg hq (show 0 ≤ -v by omega)
        rw [Int.mul_neg] at this; omega
      · rw [← h3]; grind
    · refine Or.inl ⟨h2, ?_, ?_⟩
      · have := Int.mul_nonneg hq h2; omega
      · rw [← h3]; grind
  have vl' : -2147483647 ≤ s - r / u * v ∧ s - r / u * v ≤ 2147483647 := by
    generalize s - r / u * v = v' at *
    rcases sg' with ⟨h1, h2, h3⟩ | ⟨h1, h2, h3⟩
    · have a1 := Int.mul_nonneg hm0 h1
      have a2 := mul_ge_self u (-v') hu (by omega)
      rw [Int.mul_neg] at a2; omega
    · have a1 := Int.mul_nonneg hm0 (show 0 ≤ -v by omega)
      rw [Int.mul_neg] at a1
      have a2 := mul_ge_self u v' hu h2
      omega
  refine ⟨hu, hm0, up, by omega, vl, vl', ⟨k2, cu⟩, ⟨k1 - r / u * k2, by rw [← hm]; generalize r / u = q at *; rw [cr, cu]; grind⟩, g, sg'⟩

theorem Eu.bounds {a r s u v : Int} (h : Eu a r s u v) (hu : 0 < u) : 0 ≤ r / u ∧ r / u ≤ 2147483647 ∧ 0 ≤ r / u * u ∧ r / u * u ≤ 2147483647 ∧ -4294967294 ≤ r / u * v ∧ r / u * v ≤ 4294967294 := by
  have hn := h.next hu
  have hq : 0 ≤ r / u := Int.ediv_nonneg (by have := h.r0; omega) h.u0
  have hqu : r / u ≤ r := Int.ediv_le_self _ (by have := h.r0; omega)
  have h1 := Int.mul_nonneg hq h.u0
  have h2 := hn.u0
  have h3 := hn.vl
  have h4 := h.sl
  have h5 := h.rp
  omega

/-- Its end: what the loop hands back is the inverse. -/
theorem Eu.fin {a r s v : Int} (h : Eu a r s 0 v) (ha : 0 < a) (ha' : a < 2147483647) : (s % 2147483647) * a % 2147483647 = 1 := by
  have g := h.gc
  rw [gcd_one a ha ha', Int.gcd_zero] at g
  have hr : r = 1 := by have := h.r0; omega
  obtain ⟨k, hk⟩ := h.cr
  have : s * a = 1 + (-k) * 2147483647 := by omega
  rw [Int.mul_emod, Int.emod_emod_of_dvd _ (Int.dvd_refl _), ← Int.mul_emod, this, Int.add_mul_emod_self_right]
  rfl

/-- The inverse of an element that isn't 0. -/
noncomputable def invp (a : Int) : Int := by
  classical exact if h : ∃ r : Int, 0 ≤ r ∧ r < 2147483647 ∧ r * a % 2147483647 = 1 then h.choose else 0

theorem inv_unique (a r r' : Int) (h0 : 0 ≤ r) (h1 : r < 2147483647) (h : r * a % 2147483647 = 1) (h0' : 0 ≤ r') (h1' : r' < 2147483647) (h' : r' * a % 2147483647 = 1) : r = r' := by
  have e1 : r * a * r' % 2147483647 = r' % 2147483647 := by rw [Int.mul_emod, h]; simp
  have e2 : r' * a * r % 2147483647 = r % 2147483647 := by rw [Int.mul_emod, h']; simp
  have e3 : r * a * r' = r' * a * r := by grind
  rw [e3, e2] at e1
  rw [Int.emod_eq_of_lt h0 h1, Int.emod_eq_of_lt h0' h1'] at e1
  exact e1

theorem invp_eq (a r : Int) (h0 : 0 ≤ r) (h1 : r < 2147483647) (h : r * a % 2147483647 = 1) : invp a = r := by
  unfold invp
  have hex : ∃ r : Int, 0 ≤ r ∧ r < 2147483647 ∧ r * a % 2147483647 = 1 := ⟨r, h0, h1, h⟩
  rw [dif_pos hex]
  obtain ⟨g0, g1, g2⟩ := hex.choose_spec
  exact inv_unique a _ _ g0 g1 g2 h0 h1 h

theorem inv_exists (a : Int) (ha : 0 < a) (ha' : a < 2147483647) : ∀ (n : Nat) (r s u v : Int), Eu a r s u v → u.toNat ≤ n → ∃ q : Int, 0 ≤ q ∧ q < 2147483647 ∧ q * a % 2147483647 = 1 := by
  intro n
  induction n with
  | zero =>
    intro r s u v h hu
    have hu0 := h.u0
    obtain rfl : u = 0 := by omega
    exact ⟨s % 2147483647, by omega, by omega, h.fin ha ha'⟩
  | succ n ih =>
    intro r s u v h hu
    by_cases h0 : 0 < u
    · have hn := h.next h0
      have hm : r - r / u * u = r % u := by rw [Int.emod_def, Int.mul_comm]
      have hlt := Int.emod_lt_of_pos r h0
      have hge := hn.u0
      exact ih _ _ _ _ hn (by omega)
    · have hu0 := h.u0
      obtain rfl : u = 0 := by omega
      exact ⟨s % 2147483647, by omega, by omega, h.fin ha ha'⟩

theorem invp_spec (a : Int) (ha : 0 < a) (ha' : a < 2147483647) : 0 ≤ invp a ∧ invp a < 2147483647 ∧ invp a * a % 2147483647 = 1 := by
  obtain ⟨q, q0, q1, q2⟩ := inv_exists a ha ha' _ _ _ _ _ (Eu.start a ha ha') (Nat.le_refl _)
  rw [invp_eq a q q0 q1 q2]
  exact ⟨q0, q1, q2⟩

theorem tmod_fin (s : Int) (h : -2147483647 ≤ s) (h' : s ≤ 2147483647) : (s.tmod 2147483647 + 2147483647) % 2147483647 = s % 2147483647 ∧ -2147483647 < s.tmod 2147483647 ∧ s.tmod 2147483647 < 2147483647 := by
  by_cases hs : 0 ≤ s
  · rw [Int.tmod_eq_emod_of_nonneg hs]; omega
  · have e : s.tmod 2147483647 = -((-s) % 2147483647) := by
      rw [← Int.tmod_eq_emod_of_nonneg (show 0 ≤ -s by omega), Int.neg_tmod, Int.neg_neg]
    rw [e]; omega

set_option maxHeartbeats 400000 in
theorem inverse_any (a : Int) (w : World) (h0 : 0 < a) (h1 : a < 2147483647) :
    Calls Tryz.prog 175 #[.int .i64 a] w fun e w' => (e = .returned (.int .i64 (invp a)) ∧ 0 ≤ invp a ∧ invp a < 2147483647 ∧ invp a * a % 2147483647 = 1) ∧ w = w' := by
  go_enter Tryz.func175, Tryz.ntmps175
  go_wp2
  go_loop [3, 4, 5, 6] (fun tr ts tu tv => ∃ r s u v : Int, tr = .int .i64 r ∧ ts = .int .i64 s ∧ tu = .int .i64 u ∧ tv = .int .i64 v ∧ Eu a r s u v) (fun _ _ tu _ => (intOf tu).toNat)
  case atStart => exact ⟨_, _, _, _, rfl, rfl, rfl, rfl, Eu.start a h0 h1⟩
  case round =>
    obtain ⟨r, s, u, v, rfl, rfl, rfl, rfl, hE⟩ := hrel
    have HE := Lib.hid hE
    obtain ⟨r0, u0, rp, up, ⟨sl, sl'⟩, ⟨vl, vl'⟩, -, -, -, -⟩ := hE
    by_cases hu : 0 < u
    · obtain ⟨b1, b2, b3, b4, b5, b6⟩ := HE.out.bounds hu
      go_wp2
      go_round
      case rel => exact ⟨_, _, _, _, rfl, rfl, rfl, rfl, HE.out.next hu⟩
      case measure =>
        have h1 := (HE.out.next hu).u0
        have h2 : r - r / u * u < u := by
          have : r - r / u * u = r % u := by rw [Int.emod_def, Int.mul_comm]
          rw [this]; exact Int.emod_lt_of_pos _ hu
        simp [intOf]; omega
    · obtain rfl : u = 0 := by omega
      obtain ⟨t1, t2, t3⟩ := tmod_fin s sl sl'
      have T1 : Hid (s.tmod 2147483647 % 2147483647 = s % 2147483647) := Lib.hid (by omega); clear t1
      go_wp2
      go_ret
      have hb0 : 0 ≤ s % 2147483647 := by omega
      have hb1 : s % 2147483647 < 2147483647 := by omega
      have hf := HE.out.fin h0 h1
      have e := invp_eq a _ hb0 hb1 hf
      rw [e]
      exact ⟨⟨ret_int T1.out, hb0, hb1, hf⟩, rfl⟩
end

section
open Go.RowKit

/-- Horner's scheme modulo the prime. -/
def evp : List Int → Int → Int
  | [], _ => 0
  | a :: l, x => (evp l x * x + a) % 2147483647

theorem evp_range (l : List Int) (x : Int) : 0 ≤ evp l x ∧ evp l x < 2147483647 := by
  cases l with
  | nil => simp [evp]
  | cons a l => simp only [evp]; omega

theorem evp_drop (xs : List Int) (x : Int) (k : Nat) (y : Int) (hk : xs[k]? = some y) : evp (xs.drop k) x = (evp (xs.drop (k + 1)) x * x + y) % 2147483647 := by
  obtain ⟨h, rfl⟩ := List.getElem?_eq_some_iff.1 hk
  rw [List.drop_eq_getElem_cons h]; rfl

theorem elemB_iff (x : Int) : elemB x = true ↔ 0 ≤ x ∧ x < 2147483647 := by simp [elemB]

set_option maxHeartbeats 800000 in
theorem eval_any (A : Option Addr) (c : Nat) (xs : List Int) (x : Int) (w : World) (hv : Ints w A xs) (hl : xs.length ≤ 16) (hall : xs.all elemB = true) (hx : elemB x = true) :
    Calls Tryz.prog 153 #[.slice A xs.length c, .int .i64 x] w fun e w' => e = .returned (.tuple #[.int .i64 (evp xs x), .int .i64 0]) ∧ w = w' := by
  have ⟨hx0, hx1⟩ := (elemB_iff x).1 hx
  have HV := Lib.hid hv; clear hv
  have HALL := Lib.hid hall; clear hall
  have HX := Lib.hid hx; clear hx
  go_enter Tryz.func153, Tryz.ntmps153
  go_wp2_with fail
  refine (elements_any _ _ xs _ HV.out (by omega)).mono ?_
  rintro e w' ⟨rfl, rfl⟩
  rw [HALL.out]
  go_wp2_with fail
  refine (element_any _ _).mono ?_
  rintro e w' ⟨rfl, rfl⟩
  rw [HX.out]
  go_wp2
  go_loop [6, 23] (fun o i => ∃ k : Nat, k ≤ xs.length ∧ i = .int .i64 k ∧ o = .int .i64 (evp (xs.drop (xs.length - k)) x)) (fun _ i => xs.length - (intOf i).toNat)
  case atStart => exact ⟨0, Nat.zero_le _, rfl, by simp [evp]⟩
  case round =>
    obtain ⟨k, hk, rfl, rfl⟩ := hrel
    obtain ⟨r0, r1⟩ := evp_range (xs.drop (xs.length - k)) x
    by_cases hlt : k < xs.length
    · obtain ⟨y, hy⟩ : ∃ y, xs[xs.length - 1 - k]? = some y := get_some _ _ (by omega)
      obtain ⟨b, off, rfl, hcell⟩ := HV.out.at_ hy
      have he := evp_drop xs x _ y hy
      rw [show xs.length - 1 - k + 1 = xs.length - k by omega] at he
      have hy2 := (elemB_iff y).1 (List.all_eq_true.1 HALL.out y (List.mem_of_getElem? hy))
      obtain ⟨y0, y1⟩ := hy2
      rw [show xs.length - 1 - k = xs.length - (k + 1) by omega] at he
      have HE := Lib.hid he; clear he hy
      generalize evp (xs.drop (xs.length - k)) x = acc at *
      have m0 : 0 ≤ acc * x := Int.mul_nonneg r0 hx0
      have m1 : acc * x ≤ 2147483647 * 2147483647 := Int.mul_le_mul (by omega) (by omega) hx0 (by omega)
      go_wp2
      go_round
      case rel => exact ⟨k + 1, by omega, by go_num, by rw [HE.out]⟩
      case measure => simp [intOf]; omega
    · have hk' : k = xs.length := by omega
      go_wp2
      go_ret2
      exact ⟨rfl, rfl⟩
end

section
open Go.RowKit

/-- One step of Neville's scheme. -/
noncomputable def nst (x xi xk vi vj : Int) : Int := mns (mns x xk * vi % 2147483647) (mns x xi * vj % 2147483647) * invp (mns xi xk) % 2147483647

theorem nst_range (x xi xk vi vj : Int) : 0 ≤ nst x xi xk vi vj ∧ nst x xi xk vi vj < 2147483647 := by unfold nst; omega

theorem mns_pos (a b : Int) (h0 : 0 ≤ a) (h1 : a < 2147483647) (g0 : 0 ≤ b) (g1 : b < 2147483647) (h : a ≠ b) : 0 < mns a b := by unfold mns; omega

set_option maxHeartbeats 1600000 in
theorem join_any (i k n b off cap bp bx ba : Nat) (x xi xk vi vj : Int) (w : World)
    (hi : i + 1 < 16) (hin : i < n) (hkn : k < n) (_hn : n ≤ 16) (_hcap : n ≤ cap)
    (hbp : w.cell? ⟨bp, 0, none⟩ = some (.slice (some ⟨b, off, none⟩) n cap)) (hbx : w.cell? ⟨bx, 0, none⟩ = some (.int .i64 x))
    (hxi : w.cell? ⟨b, off + i * 2, none⟩ = some (.int .i64 xi)) (hxk : w.cell? ⟨b, off + k * 2, none⟩ = some (.int .i64 xk))
    (hvi : w.cell? ⟨ba, i, none⟩ = some (.int .i64 vi)) (hvj : w.cell? ⟨ba, i + 1, none⟩ = some (.int .i64 vj)) (hfr : w.frozen? ⟨ba, i, none⟩ = false)
    (x0 : 0 ≤ x) (x1 : x < 2147483647) (xi0 : 0 ≤ xi) (xi1 : xi < 2147483647) (xk0 : 0 ≤ xk) (xk1 : xk < 2147483647)
    (vi0 : 0 ≤ vi) (vi1 : vi < 2147483647) (vj0 : 0 ≤ vj) (vj1 : vj < 2147483647) (hne : xi ≠ xk) :
    Calls Tryz.prog 173 #[.int .i64 i, .int .i64 k, .pointer (some ⟨bp, 0, none⟩), .pointer (some ⟨bx, 0, none⟩), .pointer (some ⟨ba, 0, none⟩)] w fun e w' =>
      e = .returned (.tuple #[]) ∧ ∃ m, w' = (w.drewN m).setCell ⟨ba, i, none⟩ (.int .i64 (nst x xi xk vi vj)) := by
  have hp := mns_pos xi xk xi0 xi1 xk0 xk1 hne
  clear hne
  obtain ⟨a0, a1⟩ := mns_range x xk
  obtain ⟨b0, b1⟩ := mns_range x xi
  obtain ⟨c0, c1⟩ := mns_range xi xk
  obtain ⟨m0, m1⟩ := mul_range (mns x xk) vi a0 (by omega) vi0 (by omega)
  obtain ⟨n0, n1⟩ := mul_range (mns x xi) vj b0 (by omega) vj0 (by omega)
  obtain ⟨l0, l1⟩ := mns_range (mns x xk * vi % 2147483647) (mns x xi * vj % 2147483647)
  go_enter Tryz.func173, Tryz.ntmps173
  go_wp2
  go_quiet (fail)
  go_wp2
  go_quiet ((go_at_call 174; exact quiet_same2 (minus_any _ _ _ (by omega) (by omega) (by omega) (by omega))))
  go_wp2_with fail
  refine (minus_any _ _ _ (by omega) (by omega) (by omega) (by omega)).mono ?_
  rintro e w' ⟨rfl, rfl⟩
  go_wp2_with fail
  refine (minus_any _ _ _ (by omega) (by omega) (by omega) (by omega)).mono ?_
  rintro e w' ⟨rfl, rfl⟩
  go_wp2_with fail
  refine (inverse_any _ _ hp c1).mono ?_
  rintro e w' ⟨⟨rfl, i0, i1, -⟩, rfl⟩
  obtain ⟨k0, k1⟩ := mul_range _ _ l0 (by omega) i0 (by omega)
  go_wp2
  go_end0
  exact ⟨rfl, _, rfl⟩
end

section
open Go.RowKit Go.Maps

/-- A slice of pairs of ints. -/
def Pts (w : World) (b off : Nat) (ps : List (Int × Int)) : Prop :=
  ∀ j p, ps[j]? = some p → w.cell? ⟨b, off + j * 2, none⟩ = some (.int .i64 p.1) ∧ w.cell? ⟨b, off + j * 2 + 1, none⟩ = some (.int .i64 p.2)

theorem intKeyed : Keyed Tryz.prog 3 := int_keyed Tryz.underlying3

/-- The map of the first elements seen so far. -/
def Seen (w : World) (B n : Nat) (xs : List Int) : Prop :=
  ∃ D : DataW Unit, w.ownsMap Tryz.prog 3 (plainElem Tryz.prog 4) B n D ∧ IsMap D ∧ ∀ y : Int, D.atKey (.int .i64 y) (.lit (.bool false)) = .lit (.bool (decide (y ∈ xs)))

theorem Seen.made (w : World) : Seen (w.alloc (.map #[] 0)) w.heap.size 0 [] :=
  ⟨_, World.ownsMap_made _ _ _ _, ⟨[], rfl⟩, fun y => by simp [DataW.atKey]⟩

theorem Seen.grown {w w' : World} {B n : Nat} {xs : List Int} (h : Seen w B n xs) {row : Option Nat} (hg : w.grownBy w' row) (hne : some B ≠ row) : Seen w' B n xs := by
  obtain ⟨D, h1, h2, h3⟩ := h
  exact ⟨D, h1.kept hg hne, h2, h3⟩

theorem zeroBool (w : World) : (zeroValue 4).run Tryz.prog w = .ok (.bool false) w := by kernel_rfl

theorem wf_elem {x : Int} (h : elemB x = true) : (Lit.int .i64 x).wf = true := by
  have ⟨h0, h1⟩ := (elemB_iff x).1 h
  exact WalkArith.wf_i64 (by omega)

set_option maxRecDepth 100000 in
theorem Seen.look {w : World} {B n : Nat} {xs : List Int} (h : Seen w B n xs) (x : Int) (hx : elemB x = true) (hn : x ∉ xs) :
    (Instr.lookup 134 (.map (some B)) (.int .i64 x) false).run Tryz.prog w = .ok (.bool false) w := by
  obtain ⟨D, h1, h2, h3⟩ := h
  obtain ⟨v, ps, hr, hv⟩ := h1.lookup intKeyed Tryz.underlying134 (zeroBool w) (plainElem_bool Tryz.underlying4 false) (keyOf_int_mk Tryz.underlying3 (wf_elem hx))
  rw [h3 x] at hv
  have hf : decide (x ∈ xs) = false := by simpa using hn
  rw [hf] at hv
  have : v = .bool false := by
    unfold plainElem at hv
    rw [Tryz.underlying4] at hv
    cases v <;> simp at hv
    rw [hv.1]
  rw [hr, this]

set_option maxRecDepth 100000 in
theorem Seen.put {w : World} {B n : Nat} {xs : List Int} (h : Seen w B n xs) (x : Int) (hx : elemB x = true) (hn : n < 1000) :
    ∃ w', (Instr.mapUpdate 134 (.map (some B)) (.int .i64 x) (.bool true)).run Tryz.prog w = .ok () w' ∧ Seen w' B (n + 1) (xs ++ [x]) ∧ w.grownBy w' (some B) := by
  obtain ⟨D, h1, h2, h3⟩ := h
  obtain ⟨w', hr, ho, hg⟩ := h1.update intKeyed Tryz.underlying134 (by unfold maxLen; omega) (keyOf_int_mk Tryz.underlying3 (wf_elem hx)) (plainElem_bool Tryz.underlying4 true)
  refine ⟨w', hr, ⟨_, ho, ?_, ?_⟩, hg⟩
  · obtain ⟨es, rfl⟩ := h2
    exact ⟨_, rfl⟩
  · intro y
    by_cases hy : y = x
    · subst hy
      rw [atKey_put_same h2 (by trivial)]; simp
    · rw [atKey_put_other (by simpa using hy), h3 y]
      simp [hy]

/-- A block of ints that the call made: its j-th cell is f j. -/
def Arr (w : World) (B T n : Nat) (f : Nat → Int) : Prop :=
  ∃ cs : Array Value, w.heap[B]? = some (.cells cs T (0, 0)) ∧ cs.size = n ∧ ∀ j, j < n → cs[j]? = some (.int .i64 (f j))

theorem Arr.lt {w : World} {B T n : Nat} {f : Nat → Int} (h : Arr w B T n f) : B < w.heap.size := by
  obtain ⟨cs, h1, _⟩ := h
  exact (Array.getElem?_eq_some_iff.1 h1).1
theorem Arr.cell {w : World} {B T n : Nat} {f : Nat → Int} (h : Arr w B T n f) (j : Nat) (hj : j < n) : w.cell? ⟨B, j, none⟩ = some (.int .i64 (f j)) := by
  obtain ⟨cs, h1, h2, h3⟩ := h
  rw [cell_of_row w B j cs T (0, 0) h1]; exact h3 j hj
theorem Arr.frozen {w : World} {B T n : Nat} {f : Nat → Int} (h : Arr w B T n f) (j : Nat) : w.frozen? ⟨B, j, none⟩ = false := by
  obtain ⟨cs, h1, h2, h3⟩ := h
  exact frozen_of_row w B j cs T h1
theorem Arr.grown {w w' : World} {B T n : Nat} {f : Nat → Int} (h : Arr w B T n f) {row : Option Nat} (hg : w.grownBy w' row) (hne : some B ≠ row) : Arr w' B T n f := by
  have hlt := h.lt
  obtain ⟨cs, h1, h2⟩ := h
  exact ⟨cs, (hg.block B hlt hne).trans h1, h2⟩
theorem Arr.alloc {w : World} {B T n : Nat} {f : Nat → Int} (h : Arr w B T n f) (o : Obj) : Arr (w.alloc o) B T n f := h.grown (World.grownBy_alloc w o none) (by simp)
theorem Arr.drewN {w : World} {B T n : Nat} {f : Nat → Int} (h : Arr w B T n f) (m : Nat) : Arr (w.drewN m) B T n f := h
theorem Arr.set {w : World} {B T n : Nat} {f : Nat → Int} (h : Arr w B T n f) (i : Nat) (v : Int) : Arr (w.setCell ⟨B, i, none⟩ (.int .i64 v)) B T n (fun j => if j = i then v else f j) := by
  obtain ⟨cs, h1, h2, h3⟩ := h
  refine ⟨cs.setIfInBounds i (.int .i64 v), heap_setCell_same w B i cs T _ h1, by simpa using h2, fun j hj => ?_⟩
  by_cases hji : j = i
  · subst hji
    simp [h2, hj]
  · rw [Array.getElem?_setIfInBounds_ne (by omega), h3 j hj]
    simp [hji]

theorem Arr.zeros16 (w : World) (T : Nat) : Arr (w.alloc (.cells #[.int .i64 0, .int .i64 0, .int .i64 0, .int .i64 0, .int .i64 0, .int .i64 0, .int .i64 0, .int .i64 0, .int .i64 0, .int .i64 0, .int .i64 0, .int .i64 0, .int .i64 0, .int .i64 0, .int .i64 0, .int .i64 0] T)) w.heap.size T 16 (fun _ => 0) := by
  refine ⟨_, heap_alloc_new w _, rfl, fun j hj => ?_⟩
  match j, hj with
  | 0, _ | 1, _ | 2, _ | 3, _ | 4, _ | 5, _ | 6, _ | 7, _ | 8, _ | 9, _ | 10, _ | 11, _ | 12, _ | 13, _ | 14, _ | 15, _ => rfl
  | n + 16, h => omega

/-- Neville's scheme: the value at x of the polynomial through the points j .. j + k. -/
noncomputable def nv (x : Int) (ps : List (Int × Int)) : Nat → Nat → Int
  | 0, j => (ps[j]?.getD (0, 0)).2
  | k + 1, j => nst x (ps[j]?.getD (0, 0)).1 (ps[j + (k + 1)]?.getD (0, 0)).1 (nv x ps k j) (nv x ps k (j + 1))

theorem nv_range (x : Int) (ps : List (Int × Int)) (hall : ∀ p, p ∈ ps → elemB p.1 = true ∧ elemB p.2 = true) (k j : Nat) : 0 ≤ nv x ps k j ∧ nv x ps k j < 2147483647 := by
  cases k with
  | zero =>
    simp only [nv]
    cases h : ps[j]? with
    | none => simp
    | some p => have := (elemB_iff p.2).1 (hall p (List.mem_of_getElem? h)).2; simpa using this
  | succ k => exact nst_range _ _ _ _ _
end

section
open Go.RowKit Go.Maps

set_option maxHeartbeats 4000000 in
theorem interp_any (b off cap : Nat) (ps : List (Int × Int)) (x : Int) (w : World) (hb : b < w.heap.size) (hc : Pts w b off ps) (h1 : 1 ≤ ps.length) (h16 : ps.length ≤ 16)
    (hcap : ps.length ≤ cap) (hx : elemB x = true) (hall : ∀ p, p ∈ ps → elemB p.1 = true ∧ elemB p.2 = true) (hnd : (ps.map (·.1)).Nodup) :
    Calls Tryz.prog 157 #[.slice (some ⟨b, off, none⟩) ps.length cap, .int .i64 x] w fun e w' =>
      e = .returned (.tuple #[.int .i64 (nv x ps (ps.length - 1) 0), .int .i64 0]) ∧ Below w.heap.size w w' := by
  have HX := Lib.hid hx; clear hx
  have HALL := Lib.hid hall; clear hall
  have HND := Lib.hid hnd; clear hnd
  have HC := Lib.hid hc; clear hc
  have hmm := @run_makeMap Tryz.prog
  have hmf : ∀ (fn : Fn) (first cap : Array Value) (w : World), (Instr.makeFunc fn first cap).run Tryz.prog w = .ok (.func fn first cap) w := fun _ _ _ _ => rfl
  go_enter Tryz.func157, Tryz.ntmps157
  go_wp2_with fail
  refine (element_any _ _).mono ?_
  rintro e w' ⟨rfl, rfl⟩
  rw [HX.out]
  go_wp2_with fail
  obtain ⟨w0, hw0⟩ : ∃ w0, w0 = (w.alloc (Obj.cells #[Value.slice (some { block := b, off := off }) ps.length cap] 162)).alloc (Obj.cells #[Value.int IntKind.i64 x] 3) := ⟨_, rfl⟩
  have hs0 : w0.heap.size = w.heap.size + 2 := by rw [hw0]; simp
  have HBW : Hid (Below w.heap.size w w0) := Lib.hid (by rw [hw0]; exact ((Below.refl _ _).alloc (Nat.le_refl _) _).alloc (by simp) _)
  have HQ1 : Hid (w0.cell? ⟨w.heap.size, 0, none⟩ = some (.slice (some ⟨b, off, none⟩) ps.length cap)) := Lib.hid (by rw [hw0]; simp [World.cell?_alloc_past, World.cell?_alloc_at])
  have HQ2 : Hid (w0.cell? ⟨w.heap.size + 1, 0, none⟩ = some (.int .i64 x)) := Lib.hid (by rw [hw0]; simp [World.cell?_alloc_at])
  have HW0 := Lib.hid hw0; clear hw0
  have HS0 := Lib.hid hs0; clear hs0
  go_loopw [7, 32] (fun u7 u32 wr => ∃ k : Nat, k ≤ ps.length ∧ u32 = .int .i64 k ∧ u7 = .bool false ∧ Below (w.heap.size + 2) w0 wr ∧ Seen wr (w.heap.size + 2) k ((ps.map (·.1)).take k)) (fun _ u32 _ => ps.length - (intOf u32).toNat)
  case atStart => exact ⟨0, Nat.zero_le _, rfl, rfl, by rw [HW0.out]; exact (Below.refl _ _).alloc (by simp) _, by have h := Seen.made w0; rw [HS0.out] at h; rw [← HW0.out]; simpa using h⟩
  case round =>
    obtain ⟨k, hk, rfl, rfl, hB, hS⟩ := hrel
    have HB := Lib.hid hB; clear hB
    have HS := Lib.hid hS; clear hS
    have hsz : w.heap.size + 2 < wr.heap.size := by obtain ⟨D, hD, _⟩ := HS.out; exact hD.lt
    by_cases hlt : k < ps.length
    · obtain ⟨p, hp⟩ : ∃ p, ps[k]? = some p := ⟨_, List.getElem?_eq_getElem hlt⟩
      obtain ⟨hc1, hc2⟩ := HC.out k p hp
      have hc1' := below_cell HB.out (by omega) (below_cell HBW.out hb hc1)
      have hc2' := below_cell HB.out (by omega) (below_cell HBW.out hb hc2)
      clear hc1 hc2
      obtain ⟨he1, he2⟩ := HALL.out p (List.mem_of_getElem? hp)
      have hall : [p.1, p.2].all elemB = true := by simp [he1, he2]
      have hpx : (ps.map (·.1))[k]? = some p.1 := by simp [hp]
      have hnm := nodup_not_mem HND.out k _ hpx
      have hS1 := HS.out.grown (World.grownBy_alloc wr (.cells #[.int .i64 p.1, .int .i64 p.2] 164) none) (by simp)
      have hlook := hS1.look p.1 he1 hnm
      obtain ⟨w2, hput, hS2, hg2⟩ := hS1.put p.1 he1 (by omega)
      have hB2 : Below (w.heap.size + 2) w0 w2 := ((HB.out).alloc (by omega) _).grown hg2 (by simp; omega) (by simp)
      rw [← take_snoc _ k _ hpx] at hS2
      have HS2 := Lib.hid hS2; clear hS2
      have HB2 := Lib.hid hB2; clear hB2
      have HG2 := Lib.hid hg2; clear hg2
      have HAL := Lib.hid hall; clear hall
      clear hS1 hnm he1 he2 hpx
      have HP := Lib.hid hp; clear hp
      go_wp2_with fail
      refine (elements_any _ _ [p.1, p.2] _ (Ints_two wr _ p.1 p.2) (by simp)).mono ?_
      rintro e w' ⟨rfl, rfl⟩
      rw [HAL.out]
      go_wp2
      go_roundw
      case rel => exact ⟨k + 1, by omega, by go_num, rfl, HB2.out, HS2.out⟩
      case measure => simp [intOf]; omega
    · have hbox := below_cell HB.out (by omega) HQ1.out
      have hsz0 : w.heap.size < wr.heap.size := by omega
      have hsz1 : w.heap.size + 1 < wr.heap.size := by omega
      go_wp2_with fail
      obtain ⟨w1, rfl⟩ : ∃ w1 : World, w1 = wr := ⟨_, rfl⟩
      go_loopw [11, 53] (fun u11 u53 wr => ∃ (i : Nat) (f : Nat → Int), i ≤ ps.length ∧ u53 = .int .i64 i ∧ Below (w.heap.size + 2) w0 wr ∧ Arr wr w1.heap.size 198 16 f ∧ (∀ j, j < i → f j = nv x ps 0 j) ∧ (∀ j, 0 ≤ f j ∧ f j < 2147483647)) (fun _ u53 _ => ps.length - (intOf u53).toNat)
      case atStart => exact ⟨0, fun _ => 0, Nat.zero_le _, rfl, (HB.out).alloc (by omega) _, Arr.zeros16 _ _, by simp, by simp⟩
      case round =>
        obtain ⟨i, f, hi, rfl, hB1, hA, hf, hr⟩ := hrel
        have HB1 := Lib.hid hB1; clear hB1
        have HA := Lib.hid hA; clear hA
        have HF := Lib.hid hf; clear hf
        have HR := Lib.hid hr; clear hr
        have hA1 := HA.out.lt
        by_cases hli : i < ps.length
        · obtain ⟨p, hp⟩ : ∃ p, ps[i]? = some p := ⟨_, List.getElem?_eq_getElem hli⟩
          obtain ⟨hc1, hc2⟩ := HC.out i p hp
          have hc1' := below_cell HB1.out (by omega) (below_cell HBW.out hb hc1)
          have hc2' := below_cell HB1.out (by omega) (below_cell HBW.out hb hc2)
          clear hc1 hc2
          have hac := HA.out.cell i (by omega)
          have haf := HA.out.frozen i
          have hi16 : (i : Int) < 16 := by omega
          have HP := Lib.hid hp; clear hp
          go_wp2
          go_roundw
          case rel =>
            refine ⟨i + 1, _, by omega, by go_num, ((HB1.out).setCell (p := ⟨w1.heap.size, i, none⟩) (by simp; omega) _).alloc (by simp; omega) _, (HA.out.set i p.2).alloc _, fun j hj => ?_, fun j => ?_⟩
            · by_cases hji : j = i
              · subst hji; simp [nv, HP.out]
              · simp only [hji, if_false]; exact HF.out j (by omega)
            · have ⟨he1, he2⟩ := HALL.out p (List.mem_of_getElem? HP.out)
              have := (elemB_iff p.2).1 he2
              by_cases hji : j = i
              · simp only [hji, if_true]; exact this
              · simp only [hji, if_false]; exact HR.out j
          case measure => simp [intOf]; omega
        · have hbox := below_cell HB1.out (by omega) HQ1.out
          have hboxx := below_cell HB1.out (by omega) HQ2.out
          have hnv := fun k j => nv_range x ps HALL.out k j
          have HNV := Lib.hid hnv; clear hnv
          have hfi : ∀ j, j < ps.length → f j = nv x ps 0 j := fun j hj => HF.out j (by omega)
          have HFI := Lib.hid hfi; clear hfi
          go_wp2_with fail
          obtain ⟨w2, rfl⟩ : ∃ w2 : World, w2 = wr := ⟨_, rfl⟩
          go_loopw [14] (fun u14 wr => ∃ (d : Nat) (f : Nat → Int), 1 ≤ d ∧ d ≤ ps.length ∧ u14 = .int .i64 d ∧ Below (w.heap.size + 2) w0 wr ∧ Arr wr w1.heap.size 198 16 f ∧ (∀ j, j + d ≤ ps.length → f j = nv x ps (d - 1) j) ∧ (∀ j, 0 ≤ f j ∧ f j < 2147483647)) (fun u14 _ => ps.length - (intOf u14).toNat)
          case atStart => exact ⟨1, f, Nat.le_refl _, h1, rfl, HB1.out, HA.out, fun j hj => HFI.out j (by omega), HR.out⟩
          case round =>
            obtain ⟨d, g, hd1, hd2, rfl, hB2, hA2, hg, hr2⟩ := hrel
            have HB2 := Lib.hid hB2; clear hB2
            have HA2 := Lib.hid hA2; clear hA2
            have HG := Lib.hid hg; clear hg
            have HR2 := Lib.hid hr2; clear hr2
            clear hbox hboxx
            have hbox := below_cell HB2.out (by omega) HQ1.out
            have hboxx := below_cell HB2.out (by omega) HQ2.out
            have hA3 := HA2.out.lt
            by_cases hld : d < ps.length
            · go_wp2_with fail
              obtain ⟨w3, rfl⟩ : ∃ w3 : World, w3 = wr := ⟨_, rfl⟩
              go_loopw [15, 74] (fun u15 u74 wr => ∃ (i : Nat) (f : Nat → Int), i + d ≤ ps.length ∧ u74 = .int .i64 i ∧ Below (w.heap.size + 2) w0 wr ∧ Arr wr w1.heap.size 198 16 f ∧ (∀ j, j < i → f j = nv x ps d j) ∧ (∀ j, i ≤ j → j + d ≤ ps.length → f j = nv x ps (d - 1) j) ∧ (∀ j, 0 ≤ f j ∧ f j < 2147483647)) (fun _ u74 _ => ps.length - (intOf u74).toNat)
              case atStart => exact ⟨0, g, by omega, rfl, HB2.out, HA2.out, by simp, fun j _ hj => HG.out j hj, HR2.out⟩
              case round =>
                obtain ⟨i, f, hi, rfl, hB3, hA4, hf1, hf2, hr3⟩ := hrel
                have HB3 := Lib.hid hB3; clear hB3
                have HA4 := Lib.hid hA4; clear hA4
                have HF1 := Lib.hid hf1; clear hf1
                have HF2 := Lib.hid hf2; clear hf2
                have HR3 := Lib.hid hr3; clear hr3
                by_cases hle : i + d < ps.length
                · obtain ⟨p, hp⟩ : ∃ p, ps[i]? = some p := ⟨_, List.getElem?_eq_getElem (by omega)⟩
                  obtain ⟨q, hq⟩ : ∃ q, ps[i + d]? = some q := ⟨_, List.getElem?_eq_getElem (by omega)⟩
                  have ⟨hc1, _⟩ := HC.out i p hp
                  have ⟨hc2, _⟩ := HC.out (i + d) q hq
                  have hc1' := below_cell HB3.out (by omega) (below_cell HBW.out hb hc1)
                  have hc2' := below_cell HB3.out (by omega) (below_cell HBW.out hb hc2)
                  have hb1 := below_cell HB3.out (by omega) HQ1.out
                  have hb2 := below_cell HB3.out (by omega) HQ2.out
                  have ⟨p0, p1⟩ := (elemB_iff p.1).1 (HALL.out p (List.mem_of_getElem? hp)).1
                  have ⟨q0, q1⟩ := (elemB_iff q.1).1 (HALL.out q (List.mem_of_getElem? hq)).1
                  have ⟨x0, x1⟩ := (elemB_iff x).1 HX.out
                  have hne : p.1 ≠ q.1 := nodup_ne HND.out i (i + d) p.1 q.1 (by simp [hp]) (by simp [hq]) (by omega)
                  have hj := join_any i (i + d) ps.length b off cap w.heap.size (w.heap.size + 1) w1.heap.size x p.1 q.1 (f i) (f (i + 1)) wr (by omega) (by omega) hle h16 hcap hb1 hb2 hc1' hc2'
                    (HA4.out.cell i (by omega)) (HA4.out.cell (i + 1) (by omega)) (HA4.out.frozen i) x0 x1 p0 p1 q0 q1 (HR3.out i).1 (HR3.out i).2 (HR3.out (i + 1)).1 (HR3.out (i + 1)).2 hne
                  have HJ := Lib.hid hj; clear hj
                  have he : nst x p.1 q.1 (f i) (f (i + 1)) = nv x ps d i := by
                    obtain ⟨d', rfl⟩ : ∃ d', d = d' + 1 := ⟨d - 1, by omega⟩
                    rw [nv, HF2.out i (Nat.le_refl _) (by omega), HF2.out (i + 1) (by omega) (by omega), hp, hq]
                    rfl
                  have HE := Lib.hid he
                  have HP := Lib.hid hp
                  have HQ := Lib.hid hq
                  clear hp hq hc1 hc2 hc1' hc2' hb1 hb2 hne he
                  go_wp2_with fail
                  refine HJ.out.mono ?_
                  rintro e w' ⟨rfl, m, rfl⟩
                  go_wp2
                  go_roundw
                  case rel =>
                    refine ⟨i + 1, _, by omega, by go_num, (below_drewN HB3.out m).setCell (p := ⟨w1.heap.size, i, none⟩) (by simp; omega) _, (HA4.out.drewN m).set i _, fun j hj => ?_, fun j hj hjd => ?_, fun j => ?_⟩
                    · by_cases hji : j = i
                      · subst hji; simp [HE.out]
                      · simp only [hji, if_false]; exact HF1.out j (by omega)
                    · have hji : j ≠ i := by omega
                      simp only [hji, if_false]; exact HF2.out j (by omega) hjd
                    · by_cases hji : j = i
                      · simp only [hji, if_true]; exact nst_range _ _ _ _ _
                      · simp only [hji, if_false]; exact HR3.out j
                  case measure => simp [intOf]; omega
                · have hei : i + d = ps.length := by omega
                  have HEI := Lib.hid hei; clear hei
                  go_wp2
                  go_roundw
                  case rel => exact ⟨d + 1, f, by omega, by omega, by go_num, HB3.out, HA4.out, fun j hj => HF1.out j (by have := HEI.out; omega), HR3.out⟩
                  case measure => simp [intOf]; omega
            · have hac := HA2.out.cell 0 (by omega)
              have he : g 0 = nv x ps (ps.length - 1) 0 := by
                have e : d = ps.length := by omega
                have := HG.out 0 (by omega)
                rw [e] at this; exact this
              have HE := Lib.hid he; clear he
              go_wp2
              go_ret2
              rw [← HE.out]
              exact ⟨rfl, HBW.out.trans (HB2.out.mono (by omega))⟩

theorem interp_prs (A : Option Addr) (cap : Nat) (ps : List (Int × Int)) (x : Int) (w : World) (hc : Prs w A ps) (h1 : 1 ≤ ps.length) (h16 : ps.length ≤ 16)
    (hcap : ps.length ≤ cap) (hx : elemB x = true) (hall : ∀ p, p ∈ ps → elemB p.1 = true ∧ elemB p.2 = true) (hnd : (ps.map (·.1)).Nodup) :
    Calls Tryz.prog 157 #[.slice A ps.length cap, .int .i64 x] w fun e w' =>
      e = .returned (.tuple #[.int .i64 (nv x ps (ps.length - 1) 0), .int .i64 0]) ∧ Below w.heap.size w w' := by
  obtain ⟨b, off, rfl, hcc⟩ := hc.2 (by omega)
  have hP : Pts w b off ps := fun j p hp => by
    obtain ⟨h1, h2⟩ := flat2_at ps j p hp
    exact ⟨hcc _ _ h1, by rw [Nat.add_assoc]; exact hcc _ _ h2⟩
  obtain ⟨p, hp⟩ := get_some ps 0 (by omega)
  exact interp_any b off cap ps x w (lt_of_cell (hP 0 p hp).1) hP h1 h16 hcap hx hall hnd
end
end

section
open Go.RowKit

theorem selement_any (a : Int) (w : World) :
    Calls Tryz.prog 131 #[.int .i64 a] w fun e w' => e = .returned (.bool (elemB a)) ∧ w = w' := by
  by_cases h0 : 0 ≤ a
  · by_cases h1 : a < 2147483647
    · go_enter Tryz.func131, Tryz.ntmps131
      go_wp2
      go_ret
      exact ⟨by simp [elemB, h0, h1], rfl⟩
    · go_enter Tryz.func131, Tryz.ntmps131
      go_wp2
      go_ret
      exact ⟨by simp [elemB, h0, h1], rfl⟩
  · go_enter Tryz.func131, Tryz.ntmps131
    go_wp2
    go_ret
    exact ⟨by simp [elemB]; omega, rfl⟩

def validB (s : Int × Int) : Bool := decide (1 ≤ s.1) && decide (s.1 ≤ 16) && elemB s.2

theorem valid_any (x y : Int) (w : World) :
    Calls Tryz.prog 134 #[.agg #[.int .i64 x, .int .i64 y]] w fun e w' => e = .returned (.bool (validB (x, y))) ∧ w.alloc (.cells #[.int .i64 x, .int .i64 y] 48) = w' := by
  by_cases h0 : 1 ≤ x
  · by_cases h1 : x ≤ 16
    · go_enter Tryz.func134, Tryz.ntmps134
      go_wp2_with (go_at_call 131; refine (selement_any _ _).mono ?_; rintro e w' ⟨rfl, rfl⟩)
      go_ret
      exact ⟨ret_bool (by simp [validB, h0, h1]), rfl⟩
    · go_enter Tryz.func134, Tryz.ntmps134
      go_wp2
      go_ret
      exact ⟨ret_bool (by simp [validB]; omega), rfl⟩
  · go_enter Tryz.func134, Tryz.ntmps134
    go_wp2
    go_ret
    exact ⟨ret_bool (by simp [validB]; omega), rfl⟩

theorem polyat_any (A : Option Addr) (c : Nat) (xs : List Int) (x : Int) (w : World) (hv : Ints w A xs) (hl : xs.length ≤ 16) (hall : xs.all elemB = true) (hx : elemB x = true) :
    Calls Tryz.prog 132 #[.slice A xs.length c, .int .i64 x] w fun e w' => e = .returned (.tuple #[.int .i64 (evp xs x), .int .i64 0]) ∧ w = w' := by
  have H := Lib.hid (eval_any A c xs x w hv hl hall hx)
  clear hv hall hx
  go_enter Tryz.func132, Tryz.ntmps132
  go_wp2_with fail
  refine H.out.mono ?_
  rintro e w' ⟨rfl, rfl⟩
  go_wp2
  go_ret2
  exact ⟨rfl, rfl⟩

theorem pointsat_any (A : Option Addr) (cap : Nat) (ps : List (Int × Int)) (x : Int) (w : World) (hc : Prs w A ps) (h1 : 1 ≤ ps.length) (h16 : ps.length ≤ 16)
    (hcap : ps.length ≤ cap) (hx : elemB x = true) (hall : ∀ p, p ∈ ps → elemB p.1 = true ∧ elemB p.2 = true) (hnd : (ps.map (·.1)).Nodup) :
    Calls Tryz.prog 135 #[.slice A ps.length cap, .int .i64 x] w fun e w' =>
      e = .returned (.tuple #[.int .i64 (nv x ps (ps.length - 1) 0), .int .i64 0]) ∧ Below w.heap.size w w' := by
  have H := Lib.hid (interp_prs A cap ps x w hc h1 h16 hcap hx hall hnd)
  clear hc hall hx hnd
  go_enter Tryz.func135, Tryz.ntmps135
  go_wp2_with fail
  refine H.out.mono ?_
  rintro e w' ⟨rfl, hb⟩
  go_wp2
  go_ret2
  exact ⟨rfl, hb⟩
end

section
open Go.RowKit

theorem dec_size (n : Nat) (h : n ≤ 9223372036854775807) : (dec n).size ≤ 19 := by
  have := dec_len n 18 (by omega)
  have e : (dec n).size = (Go.Lib.decDigits n).length := rfl
  omega

theorem relement_any (a : Int) (w : World) :
    Calls Tryz.prog 116 #[.int .i64 a] w fun e w' => e = .returned (.bool (elemB a)) ∧ w = w' := by
  by_cases h0 : 0 ≤ a
  · by_cases h1 : a < 2147483647
    · go_enter Tryz.func116, Tryz.ntmps116
      go_wp2
      go_ret
      exact ⟨by simp [elemB, h0, h1], rfl⟩
    · go_enter Tryz.func116, Tryz.ntmps116
      go_wp2
      go_ret
      exact ⟨by simp [elemB, h0, h1], rfl⟩
  · go_enter Tryz.func116, Tryz.ntmps116
    go_wp2
    go_ret
    exact ⟨by simp [elemB]; omega, rfl⟩

theorem rvalid_any (x y : Int) (w : World) :
    Calls Tryz.prog 76 #[.agg #[.int .i64 x, .int .i64 y]] w fun e w' => e = .returned (.bool (validB (x, y))) ∧ w.alloc (.cells #[.int .i64 x, .int .i64 y] 48) = w' := by
  by_cases h0 : 1 ≤ x
  · by_cases h1 : x ≤ 16
    · go_enter Tryz.func76, Tryz.ntmps76
      go_wp2_with (go_at_call 116; refine (relement_any _ _).mono ?_; rintro e w' ⟨rfl, rfl⟩)
      go_ret
      exact ⟨ret_bool (by simp [validB, h0, h1]), rfl⟩
    · go_enter Tryz.func76, Tryz.ntmps76
      go_wp2
      go_ret
      exact ⟨ret_bool (by simp [validB]; omega), rfl⟩
  · go_enter Tryz.func76, Tryz.ntmps76
    go_wp2
    go_ret
    exact ⟨ret_bool (by simp [validB]; omega), rfl⟩
end

section
open Go.RowKit

/-- A block of pairs of ints that the call made. -/
def PArr (w : World) (B T n : Nat) (f : Nat → Int × Int) : Prop :=
  ∃ cs : Array Value, w.heap[B]? = some (.cells cs T (0, 0)) ∧ cs.size = n * 2 ∧ ∀ j, j < n → cs[j * 2]? = some (.int .i64 (f j).1) ∧ cs[j * 2 + 1]? = some (.int .i64 (f j).2)

theorem PArr.lt {w : World} {B T n : Nat} {f : Nat → Int × Int} (h : PArr w B T n f) : B < w.heap.size := by
  obtain ⟨cs, h1, _⟩ := h
  exact (Array.getElem?_eq_some_iff.1 h1).1
theorem PArr.cell {w : World} {B T n : Nat} {f : Nat → Int × Int} (h : PArr w B T n f) (j : Nat) (hj : j < n) : w.cell? ⟨B, j * 2, none⟩ = some (.int .i64 (f j).1) ∧ w.cell? ⟨B, j * 2 + 1, none⟩ = some (.int .i64 (f j).2) := by
  obtain ⟨cs, h1, h2, h3⟩ := h
  rw [cell_of_row w B _ cs T (0, 0) h1, cell_of_row w B _ cs T (0, 0) h1]; exact h3 j hj
theorem PArr.frozen {w : World} {B T n : Nat} {f : Nat → Int × Int} (h : PArr w B T n f) (j : Nat) : w.frozen? ⟨B, j, none⟩ = false := by
  obtain ⟨cs, h1, h2, h3⟩ := h
  exact frozen_of_row w B j cs T h1
theorem PArr.grown {w w' : World} {B T n : Nat} {f : Nat → Int × Int} (h : PArr w B T n f) {row : Option Nat} (hg : w.grownBy w' row) (hne : some B ≠ row) : PArr w' B T n f := by
  have hlt := h.lt
  obtain ⟨cs, h1, h2⟩ := h
  exact ⟨cs, (hg.block B hlt hne).trans h1, h2⟩
theorem PArr.below {w w' : World} {B T n : Nat} {f : Nat → Int × Int} (h : PArr w B T n f) (hb : Below w.heap.size w w') : PArr w' B T n f := by
  have hlt := h.lt
  obtain ⟨cs, h1, h2⟩ := h
  exact ⟨cs, (hb.block B hlt).trans h1, h2⟩
theorem PArr.set {w : World} {B T n : Nat} {f : Nat → Int × Int} (h : PArr w B T n f) (i : Nat) (p : Int × Int) :
    PArr ((w.setCell ⟨B, i * 2, none⟩ (.int .i64 p.1)).setCell ⟨B, i * 2 + 1, none⟩ (.int .i64 p.2)) B T n (fun j => if j = i then p else f j) := by
  obtain ⟨cs, h1, h2, h3⟩ := h
  refine ⟨(cs.setIfInBounds (i * 2) (.int .i64 p.1)).setIfInBounds (i * 2 + 1) (.int .i64 p.2), heap_setCell_same _ B _ _ T _ (heap_setCell_same w B _ cs T _ h1), by simpa using h2, fun j hj => ?_⟩
  by_cases hji : j = i
  · subst hji
    constructor
    · rw [Array.getElem?_setIfInBounds_ne (by omega), Array.getElem?_setIfInBounds_self_of_lt (by omega)]; simp
    · rw [Array.getElem?_setIfInBounds_self_of_lt (by simp; omega)]; simp
  · simp only [hji, if_false]
    constructor
    · rw [Array.getElem?_setIfInBounds_ne (by omega), Array.getElem?_setIfInBounds_ne (by omega)]; exact (h3 j hj).1
    · rw [Array.getElem?_setIfInBounds_ne (by omega), Array.getElem?_setIfInBounds_ne (by omega)]; exact (h3 j hj).2

theorem PArr.own {w : World} {B T n base : Nat} {f : Nat → Int × Int} (h : PArr w B T n f) (hb : base ≤ B) (hn : n ≤ maxLen) :
    w.ownsRow base T 2 (.slice (some ⟨B, 0, none⟩) n n) n (flat2 ((List.range n).map f)) := by
  obtain ⟨cs, h1, h2, h3⟩ := h
  refine ⟨by rw [flat2_length]; simp, .inr ⟨B, n, cs, rfl, hb, h1, Nat.le_refl _, hn, h2, ?_⟩⟩
  rw [List.take_of_length_le (by simp [h2])]
  apply List.ext_getElem?
  intro j
  by_cases hj : j < n * 2
  · have hq : j / 2 < n := by omega
    obtain ⟨g1, g2⟩ := h3 (j / 2) hq
    obtain ⟨k1, k2⟩ := flat2_at ((List.range n).map f) (j / 2) (f (j / 2)) (by simp [hq])
    rcases Nat.mod_two_eq_zero_or_one j with hm | hm
    · rw [show j / 2 * 2 = j by omega] at g1 k1
      rw [k1, Array.getElem?_toList, g1]
    · rw [show j / 2 * 2 + 1 = j by omega] at g2 k2
      rw [k2, Array.getElem?_toList, g2]
  · rw [List.getElem?_eq_none (by simp [h2]; omega), List.getElem?_eq_none (by rw [flat2_length]; simp; omega)]

theorem PArr.of_made {w : World} {base T n g : Nat} (h : w.ownsRow base T 2 (.slice (some ⟨g, 0, none⟩) n n) n (madeCells #[.int .i64 0, .int .i64 0] (n * 2)).toList) : PArr w g T n (fun _ => (0, 0)) := by
  obtain ⟨h1, h2⟩ := h
  rcases h2 with ⟨h2, _⟩ | ⟨g', cap, cur, hv, _, hg, hn, _, hs, ht⟩
  · simp at h2
  · simp only [Value.slice.injEq, Option.some.injEq, Addr.mk.injEq, and_true, true_and] at hv
    obtain ⟨rfl, rfl⟩ := hv
    rw [List.take_of_length_le (by simp [hs])] at ht
    have e : cur = madeCells #[.int .i64 0, .int .i64 0] (n * 2) := Array.toList_inj.1 ht
    refine ⟨cur, hg, hs, fun j hj => ?_⟩
    rw [e]
    constructor
    · simp [madeCells, show j * 2 < n * 2 by omega]
    · simp [madeCells, show j * 2 + 1 < n * 2 by omega, show (j * 2 + 1) % 2 = 1 by omega]

theorem own_mono {w : World} {base base' : Nat} {e : TypeId} {size n : Nat} {v : Value} {xs : List Value} (h : w.ownsRow base e size v n xs) (hb : base' ≤ base) : w.ownsRow base' e size v n xs := by
  obtain ⟨h1, h2⟩ := h
  refine ⟨h1, ?_⟩
  rcases h2 with h2 | ⟨g, cap, cur, hv, hg, r⟩
  · exact .inl h2
  · exact .inr ⟨g, cap, cur, hv, Nat.le_trans hb hg, r⟩

theorem info_int : (Tryz.prog.info? 3).map (fun i => (i.zero, i.size, i.bytes)) = some (some (.int .i64 0), 1, 8) := by kernel_rfl
theorem info_share : (Tryz.prog.info? 48).map (fun i => (i.zero, i.size, i.bytes)) = some (some (.agg #[.int .i64 0, .int .i64 0]), 2, 16) := by kernel_rfl

/-- The shares of the polynomial with the coefficients p. -/
def shs (p : List Int) (m : Nat) : List (Int × Int) := (List.range m).map fun (i : Nat) => ((i : Int) + 1, evp p ((i : Int) + 1))

theorem shs_length (p : List Int) (m : Nat) : (shs p m).length = m := by simp [shs]

set_option maxRecDepth 100000 in
set_option maxRecDepth 100000 in
set_option maxHeartbeats 1600000 in
theorem split_any (secret : Int) (n m : Nat) (A : Option Addr) (c : Nat) (random : List Int) (w : World) (hA : Ints w A random) (h1 : 1 ≤ n) (h2 : n ≤ m) (h3 : m ≤ 16) (hn : random.length + 1 ≤ n) (hn' : n ≤ random.length + 1)
    (hall : (secret :: random).all elemB = true) :
    Calls Tryz.prog 101 #[.int .i64 secret, .int .i64 n, .int .i64 m, .slice A random.length c] w fun e w' =>
      ∃ v, e = .returned (.tuple #[v, .int .i64 0]) ∧ w'.ownsRow w.heap.size 48 2 v m (flat2 (shs (secret :: random) m)) ∧ Below w.heap.size w w' := by
  have HA := Lib.hid hA; clear hA
  have HALL := Lib.hid hall; clear hall
  have hmf : ∀ (fn : Fn) (first cap : Array Value) (w : World), (Instr.makeFunc fn first cap).run Tryz.prog w = .ok (.func fn first cap) w := fun _ _ _ _ => rfl
  have hb1 : ((random.length : Int) != (n : Int) - 1) = false := by simp; omega
  have hb2 : ((random.length : Int) == (n : Int) - 1) = true := by simp; omega
  obtain ⟨i0, hi0, hz0, hz1, hz2⟩ := info_parts info_int
  have hown0 := World.ownsRow_lit (base := w.heap.size) (e := 3) (size := 1) w #[Value.int .i64 secret] 1 (Nat.le_refl _) (by simp [maxLen]) rfl
  have HO := Lib.hid hown0; clear hown0
  go_enter Tryz.func101, Tryz.ntmps101
  go_wp2_with (at_builtin; refine wpList_app _ rfl (.tmp 41) (.tmp 42) 159 23 rfl w.heap.size 3 3 i0 (.int .i64 0) 1 8 Tryz.underlying159 Tryz.underlying23 hi0 hz0 hz1 hz2 rfl (by omega) _ 1 _ rfl HO.out A random.length c _ rfl (HA.out.below (below_alloc (Below.refl _ _) _)) (ints_oneCell _ _) (by simp only [maxLen]; omega) (by omega) (by simp) ?_)
  intro v1 w1 hown1 hg1
  obtain ⟨A1, c1, hv1, hc1, hm1, hrd1⟩ := Rd.of_own hown1
  obtain ⟨p, hp⟩ : ∃ p, p = secret :: random := ⟨_, rfl⟩
  have hpl : 1 + random.length = p.length := by rw [hp]; simp; omega
  rw [hpl] at hv1 hrd1
  have hp1 : p.length ≤ 16 := by omega
  subst hv1
  have hI1 : Ints w1 A1 p := by rw [hp] at hrd1 ⊢; exact hrd1
  have hB1 : Below w.heap.size w w1 := (below_alloc (Below.refl _ _) _).grown hg1 (by simp) (by simp [Value.ownBlock])
  clear hown1 hg1 hrd1 hpl
  have HI1 := Lib.hid hI1; clear hI1
  have HB1 := Lib.hid hB1; clear hB1
  rw [← hp] at HALL
  have HP := Lib.hid hp
  clear hp HO HA hn hn' hb1 hb2
  go_wp2_with fail
  go_loop [46] (fun u => ∃ k : Nat, k ≤ p.length ∧ u = .int .i64 k) (fun u => p.length - (intOf u).toNat)
  case atStart => exact ⟨0, Nat.zero_le _, rfl⟩
  case round =>
    obtain ⟨k, hk, rfl⟩ := hrel
    by_cases hlt : k < p.length
    · obtain ⟨x, hx⟩ := get_some p k hlt
      obtain ⟨b, off, rfl, hcell⟩ := HI1.out.at_ hx
      have hex : elemB x = true := List.all_eq_true.1 HALL.out x (List.mem_of_getElem? hx)
      have HEX := Lib.hid hex; clear hex hx
      go_wp2_with fail
      refine (selement_any _ _).mono ?_
      rintro e w' ⟨rfl, rfl⟩
      rw [HEX.out]
      go_wp2
      go_round
      case rel => exact ⟨k + 1, by omega, by go_num⟩
      case measure => simp [intOf]; omega
    · obtain ⟨i1, hi1, hy0, hy1, hy2⟩ := info_parts info_share
      go_wp2_with (at_make; refine wpList_make_full _ rfl (.tmp 56) (.tmp 56) 100 rfl w.heap.size 48 i1 _ 2 Tryz.underlying100 hi1 hy0 hy1 _ _ _ _ m rfl rfl rfl rfl (by rw [hy2]; omega) (by simp only [maxLen]; omega) HB1.out.size ?_)
      intro w2 hown2 hg2
      have hP0 := Lib.hid (PArr.of_made hown2)
      have hB2 := Lib.hid ((Below.refl w1.heap.size w1).grown hg2 (Nat.le_refl _) (by simp))
      clear hown2 hg2
      go_wp2_with fail
      go_loopw [15, 59] (fun _ u59 wr => ∃ (i : Nat) (f : Nat → Int × Int), i ≤ m ∧ u59 = .int .i64 i ∧ Below w1.heap.size w1 wr ∧ PArr wr w1.heap.size 48 m f ∧ (∀ j : Nat, j < i → f j = ((j : Int) + 1, evp p ((j : Int) + 1)))) (fun _ u59 _ => m - (intOf u59).toNat)
      case atStart => exact ⟨0, _, Nat.zero_le _, rfl, hB2.out, hP0.out, by simp⟩
      case round =>
        obtain ⟨i, f, hi, rfl, hB, hP, hf⟩ := hrel
        have HB := Lib.hid hB; clear hB
        have HPA := Lib.hid hP; clear hP
        have HF := Lib.hid hf; clear hf
        by_cases hli : i < m
        · have hc := HPA.out.cell i hli
          have hc1 := hc.1
          have hc2 := hc.2
          have hf1 := HPA.out.frozen (i * 2)
          have hf2 := HPA.out.frozen (i * 2 + 1)
          clear hc
          have hex : elemB ((i : Int) + 1) = true := by rw [elemB_iff]; omega
          have hp := Lib.hid (polyat_any A1 c1 p ((i : Int) + 1) wr (HI1.out.below HB.out) hp1 HALL.out hex)
          clear hex
          go_wp2_with fail
          refine hp.out.mono ?_
          rintro e w' ⟨rfl, rfl⟩
          go_wp2
          go_roundw
          case rel =>
            refine ⟨i + 1, _, by omega, by go_num, ((HB.out).setCell (p := ⟨w1.heap.size, i * 2, none⟩) (Nat.le_refl _) _).setCell (p := ⟨w1.heap.size, i * 2 + 1, none⟩) (Nat.le_refl _) _, HPA.out.set i ((i : Int) + 1, evp p ((i : Int) + 1)), fun j hj => ?_⟩
            by_cases hji : j = i
            · subst hji; simp
            · simp only [hji, if_false]; exact HF.out j (by omega)
          case measure => simp [intOf]; omega
        · have him : i = m := by omega
          have hown := HPA.out.own (Nat.le_refl _) (by simp only [maxLen]; omega)
          have he : (List.range m).map f = shs p m := by
            unfold shs
            apply List.map_congr_left
            intro j hj
            exact HF.out j (by have := List.mem_range.1 hj; omega)
          rw [he] at hown
          have HOWN := Lib.hid hown
          clear hown him he
          go_wp2
          go_ret2
          rw [← HP.out]
          exact ⟨_, rfl, own_mono HOWN.out HB1.out.size, HB1.out.trans (HB.out.mono HB1.out.size)⟩
end

section
open Go.RowKit

/-! ### plain: how often a place occurs -/
def cnt (l : List (Int × Int)) (k : Nat) (j : Nat) : Int := ((l.take k).map (·.1)).count (j : Int)

theorem cnt_zero (l : List (Int × Int)) (j : Nat) : cnt l 0 j = 0 := by simp [cnt]

theorem cnt_succ (l : List (Int × Int)) (k : Nat) (s : Int × Int) (hs : l[k]? = some s) (j : Nat) : cnt l (k + 1) j = cnt l k j + if (j : Int) = s.1 then 1 else 0 := by
  unfold cnt
  rw [take_snoc l k s hs, List.map_append, List.count_append]
  by_cases h : (j : Int) = s.1
  · simp [h]
  · have : ¬ s.1 = (j : Int) := fun e => h e.symm
    simp [h, this]

theorem cnt_le (l : List (Int × Int)) (k j : Nat) : 0 ≤ cnt l k j ∧ cnt l k j ≤ k := by
  unfold cnt
  have h1 := List.count_le_length (a := (j : Int)) (l := (l.take k).map (·.1))
  have h2 := List.length_take_le k l
  rw [List.length_map] at h1
  omega

theorem validB_iff (s : Int × Int) : validB s = true ↔ 1 ≤ s.1 ∧ s.1 ≤ 16 ∧ elemB s.2 = true := by
  simp [validB, and_assoc]

theorem nodup_of_cnt (l : List (Int × Int)) (hv : l.all validB = true) (h : ∀ j : Nat, j < 17 → cnt l l.length j ≤ 1) : (l.map (·.1)).Nodup := by
  rw [List.nodup_iff_count]
  intro a
  by_cases hm : a ∈ l.map (·.1)
  · obtain ⟨s, hs, rfl⟩ := List.mem_map.1 hm
    have := (validB_iff s).1 (List.all_eq_true.1 hv s hs)
    have h1 := h s.1.toNat (by omega)
    unfold cnt at h1
    rw [List.take_length, show ((s.1.toNat : Nat) : Int) = s.1 by omega] at h1
    omega
  · rw [List.count_eq_zero_of_not_mem hm]; omega

theorem dup_of_cnt (l : List (Int × Int)) (j : Nat) (h : 1 < cnt l l.length j) : ¬ (l.map (·.1)).Nodup := by
  intro hn
  have := List.nodup_iff_count.1 hn (j : Int)
  unfold cnt at h
  rw [List.take_length] at h
  omega

/-- What Join computes. -/
noncomputable def joinF (l : List (Int × Int)) (need : Int) : Int × Int := by
  classical exact
  if need < 1 ∨ 16 < need then (0, 1) else if l.all validB = false then (0, 1) else if ¬ (l.map (·.1)).Nodup then (0, 8)
  else if (l.length : Int) < need then (0, 25)
  else if (l.drop need.toNat).all (fun s => nv s.1 (l.take need.toNat) (need.toNat - 1) 0 == s.2) = false then (0, 24)
  else (nv 0 (l.take need.toNat) (need.toNat - 1) 0, 0)

theorem joinF_need (l : List (Int × Int)) (need : Int) (h : need < 1 ∨ 16 < need) : joinF l need = (0, 1) := by unfold joinF; rw [if_pos h]
theorem joinF_bad (l : List (Int × Int)) (need : Int) (h : 1 ≤ need) (h' : need ≤ 16) (hv : l.all validB = false) : joinF l need = (0, 1) := by
  unfold joinF; rw [if_neg (by omega), if_pos hv]
theorem joinF_dup (l : List (Int × Int)) (need : Int) (h : 1 ≤ need) (h' : need ≤ 16) (hv : l.all validB = true) (hd : ¬ (l.map (·.1)).Nodup) : joinF l need = (0, 8) := by
  unfold joinF; rw [if_neg (by omega), if_neg (by simp [hv]), if_pos hd]
theorem joinF_few (l : List (Int × Int)) (need : Int) (h : 1 ≤ need) (h' : need ≤ 16) (hv : l.all validB = true) (hd : (l.map (·.1)).Nodup) (hl : (l.length : Int) < need) : joinF l need = (0, 25) := by
  unfold joinF; rw [if_neg (by omega), if_neg (by simp [hv]), if_neg (by simpa using hd), if_pos hl]
theorem joinF_wrong (l : List (Int × Int)) (n : Nat) (h : 1 ≤ n) (h' : n ≤ 16) (hv : l.all validB = true) (hd : (l.map (·.1)).Nodup) (hl : n ≤ l.length)
    (k : Nat) (s : Int × Int) (hs : (l.drop n)[k]? = some s) (hw : ¬ nv s.1 (l.take n) (n - 1) 0 = s.2) : joinF l n = (0, 24) := by
  unfold joinF; rw [if_neg (by omega), if_neg (by simp [hv]), if_neg (by simpa using hd), if_neg (by omega), if_pos]
  rw [Int.toNat_natCast]
  exact all_false_of _ _ k s hs (by simpa using hw)
theorem joinF_ok (l : List (Int × Int)) (n : Nat) (h : 1 ≤ n) (h' : n ≤ 16) (hv : l.all validB = true) (hd : (l.map (·.1)).Nodup) (hl : n ≤ l.length)
    (hw : ∀ s, s ∈ l.drop n → nv s.1 (l.take n) (n - 1) 0 = s.2) : joinF l n = (nv 0 (l.take n) (n - 1) 0, 0) := by
  unfold joinF; rw [if_neg (by omega), if_neg (by simp [hv]), if_neg (by simpa using hd), if_neg (by omega), if_neg]
  · rw [Int.toNat_natCast]
  · rw [Int.toNat_natCast, Bool.not_eq_false, List.all_eq_true]
    intro s hs
    simpa using hw s hs

theorem Arr.zeros17 (w : World) (T : Nat) : Arr (w.alloc (.cells #[.int .i64 0, .int .i64 0, .int .i64 0, .int .i64 0, .int .i64 0, .int .i64 0, .int .i64 0, .int .i64 0, .int .i64 0, .int .i64 0, .int .i64 0, .int .i64 0, .int .i64 0, .int .i64 0, .int .i64 0, .int .i64 0, .int .i64 0] T)) w.heap.size T 17 (fun _ => 0) := by
  refine ⟨_, heap_alloc_new w _, rfl, fun j hj => ?_⟩
  match j, hj with
  | 0, _ | 1, _ | 2, _ | 3, _ | 4, _ | 5, _ | 6, _ | 7, _ | 8, _ | 9, _ | 10, _ | 11, _ | 12, _ | 13, _ | 14, _ | 15, _ | 16, _ => rfl
  | n + 17, h => omega

theorem info_point : (Tryz.prog.info? 164).map (fun i => (i.zero, i.size, i.bytes)) = some (some (.agg #[.int .i64 0, .int .i64 0]), 2, 16) := by kernel_rfl

set_option maxRecDepth 100000 in
set_option maxRecDepth 100000 in
set_option maxHeartbeats 8000000 in
theorem join_full (A : Option Addr) (c : Nat) (l : List (Int × Int)) (need : Int) (w : World) (hA : Prs w A l) (hlen : l.length ≤ 1000000) (hcap : l.length ≤ c) :
    Calls Tryz.prog 103 #[.slice A l.length c, .int .i64 need] w fun e w' =>
      e = .returned (.tuple #[.int .i64 (joinF l need).1, .int .i64 (joinF l need).2]) ∧ Below w.heap.size w w' := by
  by_cases hneed : need < 1 ∨ 16 < need
  · have hJ := Lib.hid (joinF_need l need hneed)
    rcases hneed with hneed | hneed
    · go_enter Tryz.func103, Tryz.ntmps103
      go_wp2
      go_ret2
      rw [hJ.out]
      exact ⟨rfl, Below.refl _ _⟩
    · go_enter Tryz.func103, Tryz.ntmps103
      go_wp2
      go_ret2
      rw [hJ.out]
      exact ⟨rfl, Below.refl _ _⟩
  have hn1 : 1 ≤ need := by omega
  have hn16 : need ≤ 16 := by omega
  clear hneed
  obtain ⟨n, rfl⟩ := Int.eq_ofNat_of_zero_le (show 0 ≤ need by omega)
  have HA := Lib.hid hA; clear hA
  go_enter Tryz.func103, Tryz.ntmps103
  go_wp2_with fail
  go_loopw [27] (fun u27 wr => ∃ (k : Nat) (f : Nat → Int), k ≤ l.length ∧ u27 = .int .i64 k ∧ Below w.heap.size w wr ∧ Arr wr w.heap.size 161 17 f ∧ (∀ j, j < 17 → f j = cnt l k j) ∧ (l.take k).all validB = true) (fun u27 _ => l.length - (intOf u27).toNat)
  case atStart => exact ⟨0, _, Nat.zero_le _, rfl, below_alloc (Below.refl _ _) _, Arr.zeros17 _ _, by simp [cnt_zero], rfl⟩
  case round =>
    obtain ⟨k, f, hk, rfl, hB, hAr, hf, hall⟩ := hrel
    have HB := Lib.hid hB; clear hB
    have HAR := Lib.hid hAr; clear hAr
    have HF := Lib.hid hf; clear hf
    have HALL := Lib.hid hall; clear hall
    have hlt0 := HAR.out.lt
    by_cases hlt : k < l.length
    · obtain ⟨s, hs⟩ := get_some l k hlt
      obtain ⟨b, off, rfl, hc1, hc2⟩ := (HA.out.below HB.out).at_ hs
      have HS := Lib.hid hs; clear hs
      cases hv : validB s
      · have hj := joinF_bad l n hn1 hn16 (all_false_of validB l k s HS.out hv)
        have HJ := Lib.hid hj; clear hj
        have HV := Lib.hid hv; clear hv
        go_wp2_with fail
        refine (valid_any s.1 s.2 _).mono ?_
        rintro e w' ⟨rfl, rfl⟩
        rw [HV.out]
        go_wp2
        go_ret2
        rw [HJ.out]
        exact ⟨rfl, below_alloc (below_alloc HB.out _) _⟩
      · obtain ⟨x1, x16, -⟩ := (validB_iff s).1 hv
        have HV := Lib.hid hv; clear hv
        have hcx := HAR.out.cell s.1.toNat (by omega)
        have hfx := HAR.out.frozen s.1.toNat
        have hb1 := cnt_le l k s.1.toNat
        rw [← HF.out s.1.toNat (by omega)] at hb1
        obtain ⟨b1, b2⟩ := hb1
        have hix : (0 : Int) ≤ s.1 := by omega
        have hix2 : s.1 < 17 := by omega
        go_wp2_with fail
        refine (valid_any s.1 s.2 _).mono ?_
        rintro e w' ⟨rfl, rfl⟩
        rw [HV.out]
        go_wp2
        go_roundw
        case rel =>
          refine ⟨k + 1, _, by omega, by go_num, (((HB.out).setCell (p := ⟨w.heap.size, s.1.toNat, none⟩) (Nat.le_refl _) _).alloc (by have := HB.out.size; simp; omega) _).alloc (by have := HB.out.size; simp; omega) _,
            ((HAR.out.set s.1.toNat (f s.1.toNat + 1)).alloc _).alloc _, fun j hj => ?_, by rw [all_take_succ validB l k s HS.out, HALL.out, HV.out]; rfl⟩
          rw [cnt_succ l k s HS.out j]
          by_cases hji : j = s.1.toNat
          · subst hji
            simp only [if_true]
            rw [if_pos (by omega), HF.out _ hj]
          · simp only [hji, if_false]
            rw [if_neg (by omega), HF.out _ hj]; omega
        case measure => simp [intOf]; omega
    · have hkl : l.length ≤ k := by omega
      have hall : l.all validB = true := by have := HALL.out; rwa [List.take_of_length_le hkl] at this
      have hfc : ∀ j, j < 17 → f j = cnt l l.length j := fun j hj => by rw [HF.out j hj]; unfold cnt; rw [List.take_of_length_le hkl, List.take_length]
      have HFC := Lib.hid hfc; clear hfc
      have HVA := Lib.hid hall; clear hall
      obtain ⟨cs, hcs, hcz, hcj⟩ := HAR.out
      have HCS := Lib.hid hcs; clear hcs
      have HCZ := Lib.hid hcz; clear hcz
      have HCJ := Lib.hid hcj; clear hcj
      go_wp2_with (refine wpList_load_row rfl 161 _ rfl w.heap.size rfl 161 cs _ _ HCS.out Tryz.underlying161 rfl (by rw [HCZ.out]; kernel_rfl) ?_)
      go_loop [10, 42] (fun _ u42 => ∃ i : Nat, i ≤ 17 ∧ u42 = .int .i64 i ∧ ∀ j, j < i → f j ≤ 1) (fun _ u42 => 17 - (intOf u42).toNat)
      case atStart => exact ⟨0, by omega, rfl, by simp⟩
      case round =>
        obtain ⟨i, hi, rfl, hle⟩ := hrel
        have HLE := Lib.hid hle; clear hle
        by_cases hlt2 : i < 17
        · obtain ⟨i0, hi0, hz0, hz1, hz2⟩ := info_parts info_int
          have hix := run_index_agg 161 3 17 .i64 i0 cs .i64 i _ Tryz.underlying161 Tryz.underlying3 hi0 hz1 hlt2 (HCJ.out i hlt2) wr
          clear hi0 hz0 hz1 hz2
          by_cases h1 : 1 < f i
          · have hj := joinF_dup l n hn1 hn16 HVA.out (dup_of_cnt l i (by rw [← HFC.out i hlt2]; exact h1))
            have HJ := Lib.hid hj; clear hj
            go_wp2
            go_ret2
            rw [HJ.out]
            exact ⟨rfl, HB.out⟩
          · have h1' : f i ≤ 1 := by omega
            go_wp2
            go_round
            case rel =>
              refine ⟨i + 1, by omega, by go_num, fun j hj => ?_⟩
              by_cases hji : j = i
              · subst hji; exact h1'
              · exact HLE.out j (by omega)
            case measure => simp [intOf]; omega
        · have hnd := nodup_of_cnt l HVA.out (fun j hj => by rw [← HFC.out j hj]; exact HLE.out j (by omega))
          have HND := Lib.hid hnd; clear hnd
          by_cases hfew : l.length < n
          · have hj := joinF_few l n hn1 hn16 HVA.out HND.out (by omega)
            have HJ := Lib.hid hj; clear hj
            go_wp2
            go_ret2
            rw [HJ.out]
            exact ⟨rfl, HB.out⟩
          · have hnl : n ≤ l.length := by omega
            obtain ⟨b, off, rfl, hcells⟩ := HA.out.2 (by omega)
            have HCE := Lib.hid hcells; clear hcells
            go_wp2_with fail
            obtain ⟨w3, rfl⟩ : ∃ w3 : World, w3 = wr := ⟨_, rfl⟩
            obtain ⟨i2, hi2, hy0, hy1, hy2⟩ := info_parts info_point
            have HI2 := Lib.hid (And.intro hi2 (And.intro hy0 (And.intro hy1 hy2)))
            clear hi2 hy0 hy1 hy2
            go_loopw [11, 56] (fun u11 u56 wr => ∃ q : Nat, q ≤ n ∧ u56 = .int .i64 q ∧ Below w3.heap.size w3 wr ∧ wr.ownsRow w3.heap.size 164 2 u11 q (flat2 (l.take q))) (fun _ u56 _ => n - (intOf u56).toNat)
            case atStart => exact ⟨0, Nat.zero_le _, rfl, Below.refl _ _, World.ownsRow_nil _ _ _ _⟩
            case round =>
              obtain ⟨q, hq, rfl, hB3, hO3⟩ := hrel
              have HB3 := Lib.hid hB3; clear hB3
              have HO3 := Lib.hid hO3; clear hO3
              by_cases hqn : q < n
              · obtain ⟨s, hs⟩ := get_some l q (by omega)
                obtain ⟨h1, h2⟩ := flat2_at l q s hs
                have hc1 := kept_cell HB3.out (kept_cell HB.out (HCE.out _ _ h1))
                have hc2 := kept_cell HB3.out (kept_cell HB.out (HCE.out _ _ h2))
                rw [← Nat.add_assoc] at hc2
                have HS := Lib.hid hs; clear hs h1 h2
                go_wp2_with (at_builtin; refine wpList_app _ rfl (.tmp 60) (.tmp 66) 163 163 rfl w3.heap.size 164 164 i2 _ 2 16 Tryz.underlying163 Tryz.underlying163 HI2.out.1 HI2.out.2.1 HI2.out.2.2.1 HI2.out.2.2.2 rfl (by omega) _ q _ rfl ((HO3.out.alloc _).alloc _) _ 1 1 [.int .i64 s.1, .int .i64 s.2] rfl (Rd_new (wr.alloc _) #[.int .i64 s.1, .int .i64 s.2] _ 2 1 _ rfl (by simp)) (by simp [Value.oneCell']) (by simp only [maxLen]; omega) (by omega) (by have := HB3.out.size; simp; omega) ?_)
                intro v1 w4 hown4 hg4
                have hB4 : Below w3.heap.size w3 w4 := (below_alloc (below_alloc HB3.out _) _).grown hg4 (by have := HB3.out.size; simp; omega) (fun j hj => (HO3.out.lt j hj).1)
                have e4 : flat2 (l.take q) ++ [.int .i64 s.1, .int .i64 s.2] = flat2 (l.take (q + 1)) := by rw [take_snoc l q s HS.out, flat2_append]; rfl
                rw [e4] at hown4
                have HOWN4 := Lib.hid hown4
                have HB4 := Lib.hid hB4
                clear hown4 hB4 hg4 e4
                go_wp2
                go_roundw
                case rel => exact ⟨q + 1, by omega, by go_num, HB4.out, HOWN4.out⟩
                case measure => simp [intOf]; omega
              · obtain rfl : q = n := by omega
                obtain ⟨A3, c3, rfl, hc3, hm3, hrd3⟩ := Rd.of_own HO3.out
                have eql : (l.take q).length = q := List.length_take_of_le hnl
                have hP3 : Prs wr A3 (l.take q) := by
                  unfold Prs; rw [eql]; exact hrd3
                have helem : ∀ p, p ∈ l → elemB p.1 = true ∧ elemB p.2 = true := fun p hp => by
                  have := (validB_iff p).1 (List.all_eq_true.1 HVA.out p hp)
                  exact ⟨by rw [elemB_iff]; omega, this.2.2⟩
                have hcall : ∀ (x : Int), elemB x = true → ∀ W, Below wr.heap.size wr W → Calls Tryz.prog 135 #[.slice A3 q c3, .int .i64 x] W fun e w' =>
                    e = .returned (.tuple #[.int .i64 (nv x (l.take q) (q - 1) 0), .int .i64 0]) ∧ Below W.heap.size W w' := by
                  intro x hx W hW
                  have h := pointsat_any A3 c3 (l.take q) x W (hP3.below hW) (by rw [eql]; omega) (by rw [eql]; omega) (by rw [eql]; exact hc3) hx (fun p hp => helem p (List.mem_of_mem_take hp))
                    ((HND.out).sublist ((List.take_sublist q l).map _))
                  rw [eql] at h
                  exact h
                have HCALL := Lib.hid hcall
                have HEL := Lib.hid helem
                have HB0 := Lib.hid (HB.out.trans (HB3.out.mono HB.out.size))
                clear hP3 hrd3 hcall helem eql
                obtain ⟨w5, rfl⟩ : ∃ w5 : World, w5 = wr := ⟨_, rfl⟩
                by_cases hcq : c = q
                · obtain rfl := hcq
                  have hj := joinF_ok l c (by omega) (by omega) HVA.out HND.out hnl (by intro s hs; rw [List.drop_eq_nil_of_le hcap] at hs; cases hs)
                  have HJ := Lib.hid hj; clear hj
                  go_wp2_with fail
                  refine wp_loop_rounds 1 ?_
                  rw [rounds_succ]
                  have hz : ¬ ((0 : Int) < (l.length : Int) - (c : Int)) := by omega
                  go_wp2_with fail
                  refine (HCALL.out 0 rfl _ (Below.refl _ _)).mono ?_
                  rintro e w6 ⟨rfl, hb6⟩
                  have HB6 := Lib.hid hb6; clear hb6
                  go_wp2
                  go_ret2
                  rw [HJ.out]
                  exact ⟨rfl, below_trans HB0.out HB6.out⟩
                · go_wp2_with fail
                  go_loopw [17, 18, 75] (fun _ _ u75 wr => ∃ r : Nat, r ≤ l.length - q ∧ u75 = .int .i64 r ∧ Below w5.heap.size w5 wr ∧ ∀ s, s ∈ (l.drop q).take r → nv s.1 (l.take q) (q - 1) 0 = s.2) (fun _ _ u75 _ => l.length - (intOf u75).toNat)
                  case atStart => exact ⟨0, Nat.zero_le _, rfl, Below.refl _ _, by simp⟩
                  case round =>
                    obtain ⟨r, hr, rfl, hB5, hok⟩ := hrel
                    have HB5 := Lib.hid hB5; clear hB5
                    have HOK := Lib.hid hok; clear hok
                    by_cases hrl : r < l.length - q
                    · obtain ⟨s, hs⟩ := get_some l (q + r) (by omega)
                      have hsd : (l.drop q)[r]? = some s := by rw [List.getElem?_drop]; exact hs
                      obtain ⟨h1, h2⟩ := flat2_at l (q + r) s hs
                      have hc1 := kept_cell HB5.out (kept_cell HB0.out (kept_cell (Below.refl _ _) (HCE.out _ _ h1)))
                      have hc2 := kept_cell HB5.out (kept_cell HB0.out (kept_cell (Below.refl _ _) (HCE.out _ _ h2)))
                      rw [show off + (q + r) * 2 = off + q * 2 + r * 2 by omega] at hc1
                      rw [show off + ((q + r) * 2 + 1) = off + q * 2 + r * 2 + 1 by omega] at hc2
                      have hex := (HEL.out s (List.mem_of_getElem? hs)).1
                      have hca := Lib.hid (HCALL.out s.1 hex _ (below_alloc HB5.out (.cells #[.int .i64 s.1, .int .i64 s.2] 48)))
                      have HSD := Lib.hid hsd
                      clear hs hsd h1 h2 hex
                      go_wp2_with fail
                      refine hca.out.mono ?_
                      rintro e w6 ⟨rfl, hb6⟩
                      have hsz : wr.heap.size < w6.heap.size := by have := hb6.size; simp at this; omega
                      have hcy : w6.cell? ⟨wr.heap.size, 1, none⟩ = some (.int .i64 s.2) := below_cell hb6 (by simp) (by rw [World.cell?_alloc_at _ _ _ _ rfl]; rfl)
                      have hb7 := below_trans (below_alloc HB5.out _) hb6
                      have HB7 := Lib.hid hb7
                      clear hb6 hb7
                      by_cases hy : nv s.1 (l.take q) (q - 1) 0 = s.2
                      · have HY := Lib.hid hy
                        have hy' : (nv s.1 (l.take q) (q - 1) 0 == s.2) = true := by simpa using hy
                        have hy'' : (nv s.1 (l.take q) (q - 1) 0 != s.2) = false := by simpa using hy
                        clear hy
                        go_wp2
                        go_roundw
                        case rel =>
                          refine ⟨r + 1, by omega, by go_num, HB7.out, fun t ht => ?_⟩
                          rw [take_snoc _ r s HSD.out] at ht
                          rcases List.mem_append.1 ht with ht | ht
                          · exact HOK.out t ht
                          · rw [List.mem_singleton.1 ht]; exact HY.out
                        case measure => simp [intOf]; omega
                      · have hj := joinF_wrong l q (by omega) (by omega) HVA.out HND.out hnl r s HSD.out hy
                        have HJ := Lib.hid hj; clear hj
                        have hy' : (nv s.1 (l.take q) (q - 1) 0 == s.2) = false := by simpa using hy
                        have hy'' : (nv s.1 (l.take q) (q - 1) 0 != s.2) = true := by simpa using hy
                        clear hy
                        go_wp2
                        go_ret2
                        rw [HJ.out]
                        exact ⟨rfl, below_trans HB0.out HB7.out⟩
                    · have hall : ∀ s, s ∈ l.drop q → nv s.1 (l.take q) (q - 1) 0 = s.2 := by
                        have := HOK.out
                        rwa [List.take_of_length_le (by rw [List.length_drop]; omega)] at this
                      have hj := joinF_ok l q (by omega) (by omega) HVA.out HND.out hnl hall
                      have HJ := Lib.hid hj; clear hj hall
                      go_wp2_with fail
                      refine (HCALL.out 0 rfl _ HB5.out).mono ?_
                      rintro e w6 ⟨rfl, hb6⟩
                      have HB6 := Lib.hid hb6; clear hb6
                      go_wp2
                      go_ret2
                      rw [HJ.out]
                      exact ⟨rfl, below_trans HB0.out (below_trans HB5.out HB6.out)⟩
end

section
section
abbrev F := Fin 2147483647

def phi (a : Int) : F := ⟨(a % 2147483647).toNat, by omega⟩

theorem phi_add (a b : Int) : phi (a + b) = phi a + phi b := by
  apply Fin.ext
  rw [Fin.val_add]
  simp only [phi]; omega
theorem phi_sub (a b : Int) : phi (a - b) = phi a - phi b := by
  have h : phi (a - b) + phi b = phi a := by rw [← phi_add]; congr 1; omega
  rw [← h]; grind
theorem phi_mul (a b : Int) : phi (a * b) = phi a * phi b := by
  apply Fin.ext
  rw [Fin.val_mul]
  simp only [phi]
  have h0 : 0 ≤ a % 2147483647 := by omega
  have h1 : 0 ≤ b % 2147483647 := by omega
  obtain ⟨m, hm⟩ := Int.eq_ofNat_of_zero_le h0
  obtain ⟨n, hn⟩ := Int.eq_ofNat_of_zero_le h1
  rw [Int.mul_emod, hm, hn]
  simp only [Int.toNat_natCast]
  omega
theorem phi_emod (a : Int) : phi (a % 2147483647) = phi a := by
  apply Fin.ext
  simp only [phi]; omega
theorem phi_p : phi 2147483647 = 0 := rfl
theorem phi_zero : phi 0 = 0 := rfl
theorem phi_one : phi 1 = 1 := rfl
theorem phi_inj {a b : Int} (ha : 0 ≤ a) (ha' : a < 2147483647) (hb : 0 ≤ b) (hb' : b < 2147483647) (h : phi a = phi b) : a = b := by
  have := congrArg Fin.val h
  simp only [phi] at this; omega
theorem phi_mns (a b : Int) : phi (mns a b) = phi a - phi b := by
  unfold mns
  rw [phi_emod, phi_add, phi_sub, phi_p]; grind

theorem phi_inv (a : Int) (h0 : 0 < a) (h1 : a < 2147483647) : phi (invp a) * phi a = 1 := by
  rw [← phi_mul, ← phi_emod, (invp_spec a h0 h1).2.2]; rfl

theorem phi_ne {a b : Int} (ha : 0 ≤ a) (ha' : a < 2147483647) (hb : 0 ≤ b) (hb' : b < 2147483647) (h : a ≠ b) : phi a ≠ phi b := fun e => h (phi_inj ha ha' hb hb' e)

theorem phi_surj (x : F) : ∃ a : Int, 0 ≤ a ∧ a < 2147483647 ∧ phi a = x :=
  ⟨(x.val : Int), by omega, by omega, by apply Fin.ext; simp only [phi]; omega⟩

/-- In the field: an element that isn't 0 has an inverse. -/
theorem f_inv (x : F) (h : x ≠ 0) : ∃ y : F, y * x = 1 := by
  obtain ⟨a, a0, a1, rfl⟩ := phi_surj x
  have : a ≠ 0 := fun e => h (by rw [e]; rfl)
  exact ⟨_, phi_inv a (by omega) a1⟩

theorem f_cancel (x y : F) (h : x ≠ 0) (e : x * y = 0) : y = 0 := by
  obtain ⟨z, hz⟩ := f_inv x h
  have : z * (x * y) = 0 := by rw [e]; grind
  have e2 : z * (x * y) = (z * x) * y := by grind
  rw [e2, hz] at this; grind

/-- The value of a polynomial, the constant first. -/
def ev : List F → F → F
  | [], _ => 0
  | c :: l, x => ev l x * x + c

theorem phi_evp (l : List Int) (x : Int) : phi (evp l x) = ev (l.map phi) (phi x) := by
  induction l with
  | nil => rfl
  | cons c l ih => rw [evp, phi_emod, phi_add, phi_mul, ih]; rfl

/-- Divided differences. -/
def dd : List F → List F → F
  | [], _ => 0
  | _ :: _, [] => 0
  | c :: l, [a] => c + a * dd l [a]
  | _ :: l, a :: b :: T => a * dd l (a :: b :: T) + dd l (b :: T)

theorem dd_nil (S : List F) : dd [] S = 0 := by cases S <;> rfl
theorem dd_none (cs : List F) : dd cs [] = 0 := by cases cs <;> rfl
theorem dd_one (cs : List F) (x : F) : dd cs [x] = ev cs x := by
  induction cs with
  | nil => rfl
  | cons c l ih => rw [dd, ih, ev]; grind

theorem dd_step (cs : List F) (a b : F) (T : List F) : (a - b) * dd cs (a :: b :: T) = dd cs (a :: T) - dd cs (b :: T) := by
  induction cs generalizing T with
  | nil => simp only [dd_nil]; grind
  | cons c l ih =>
    cases T with
    | nil => have := ih []; simp only [dd] at *; grind
    | cons t T => have := ih (t :: T); simp only [dd] at *; grind

theorem dd_swap (cs : List F) (a b : F) (T : List F) : dd cs (a :: b :: T) = dd cs (b :: a :: T) := by
  induction cs generalizing T with
  | nil => rfl
  | cons c l ih => have h1 := ih T; have h2 := dd_step l a b T; simp only [dd]; grind

theorem dd_perm {S S' : List F} (h : S.Perm S') : ∀ cs, dd cs S = dd cs S' := by
  induction h with
  | nil => intro cs; rfl
  | swap a b l => intro cs; exact dd_swap cs b a l
  | trans _ _ h1 h2 => intro cs; exact (h1 cs).trans (h2 cs)
  | @cons a S S' hp ih =>
    intro cs
    induction cs with
    | nil => simp only [dd_nil]
    | cons c l ihl =>
      cases S with
      | nil => rw [List.nil_perm.1 hp]
      | cons s S =>
        cases S' with
        | nil => exact absurd hp (by simp)
        | cons s' S' => simp only [dd]; rw [ihl, ih l]

theorem dd_long (cs S : List F) (h : cs.length < S.length) : dd cs S = 0 := by
  induction cs generalizing S with
  | nil => exact dd_nil S
  | cons c l ih =>
    match S, h with
    | [a], h => simp at h
    | a :: b :: T, h => simp only [dd]; rw [ih (a :: b :: T) (by simp at h ⊢; omega), ih (b :: T) (by simp at h ⊢; omega)]; grind

def prd (x : F) : List F → F
  | [] => 1
  | a :: l => (x - a) * prd x l

theorem prd_append (x : F) (l m : List F) : prd x (l ++ m) = prd x l * prd x m := by
  induction l with
  | nil => simp only [List.nil_append, prd]; grind
  | cons a l ih => simp only [List.cons_append, prd, ih]; grind
end

section
def nodes (ps : List (Int × Int)) (j k : Nat) : List F := ((ps.drop j).take k).map fun p => phi p.1

theorem nodes_cons (ps : List (Int × Int)) (j k : Nat) (p : Int × Int) (h : ps[j]? = some p) : nodes ps j (k + 1) = phi p.1 :: nodes ps (j + 1) k := by
  obtain ⟨hj, rfl⟩ := List.getElem?_eq_some_iff.1 h
  unfold nodes
  rw [List.drop_eq_getElem_cons hj]; rfl

theorem nodes_snoc (ps : List (Int × Int)) (j k : Nat) (p : Int × Int) (h : ps[j + k]? = some p) : nodes ps j (k + 1) = nodes ps j k ++ [phi p.1] := by
  unfold nodes
  rw [take_snoc (ps.drop j) k p (by rw [List.getElem?_drop]; exact h)]; simp

/-- The list of a slice of points: elements of the field, different places. -/
structure Good (ps : List (Int × Int)) : Prop where
  elems : ∀ p, p ∈ ps → elemB p.1 = true ∧ elemB p.2 = true
  nodup : (ps.map (·.1)).Nodup

theorem nev_alg (f x a b u vi vj m d1 d2 d3 : F) (hu : u * (a - b) = 1) (i1 : f - vi = (x - a) * m * d1) (i2 : f - vj = m * ((x - b) * 1) * d2) (h4 : (a - b) * d3 = d1 - d2) :
    f - ((x - b) * vi - (x - a) * vj) * u = (x - a) * (m * ((x - b) * 1)) * d3 := by
  have e1 : f - ((x - b) * vi - (x - a) * vj) * u = ((x - b) * (f - vi) - (x - a) * (f - vj)) * u + f * (1 - u * (a - b)) := by grind
  rw [e1, i1, i2, hu]
  have e2 : ((x - b) * ((x - a) * m * d1) - (x - a) * (m * ((x - b) * 1) * d2)) * u + f * (1 - 1) = (x - a) * m * (x - b) * u * (d1 - d2) := by grind
  rw [e2, ← h4]
  have e3 : (x - a) * m * (x - b) * u * ((a - b) * d3) = (x - a) * m * (x - b) * (u * (a - b)) * d3 := by grind
  rw [e3, hu]; grind

theorem neville (ps : List (Int × Int)) (hg : Good ps) (C : List F) (hC : ∀ p, p ∈ ps → phi p.2 = ev C (phi p.1)) (x : Int) :
    ∀ k j, j + k < ps.length → ev C (phi x) - phi (nv x ps k j) = prd (phi x) (nodes ps j (k + 1)) * dd C (nodes ps j (k + 1) ++ [phi x]) := by
  intro k
  induction k with
  | zero =>
    intro j hj
    obtain ⟨p, hp⟩ := get_some ps j (by omega)
    have h1 := hC p (List.mem_of_getElem? hp)
    have h2 := dd_step C (phi x) (phi p.1) []
    rw [nodes_cons ps j 0 p hp]
    simp only [nv, hp, Option.getD_some, nodes, List.take_zero, List.map_nil, List.cons_append, List.nil_append, prd]
    rw [dd_one, dd_one] at h2
    rw [h1, dd_swap]
    grind
  | succ k ih =>
    intro j hj
    obtain ⟨p, hp⟩ := get_some ps j (by omega)
    obtain ⟨q, hq⟩ := get_some ps (j + (k + 1)) (by omega)
    have i1 := ih j (by omega)
    have i2 := ih (j + 1) (by omega)
    have hne : p.1 ≠ q.1 := nodup_ne hg.nodup j (j + (k + 1)) _ _ (by simp [hp]) (by simp [hq]) (by omega)
    have hpe := (elemB_iff _).1 (hg.elems p (List.mem_of_getElem? hp)).1
    have hqe := (elemB_iff _).1 (hg.elems q (List.mem_of_getElem? hq)).1
    have hm := mns_range p.1 q.1
    have hmp := mns_pos p.1 q.1 hpe.1 hpe.2 hqe.1 hqe.2 hne
    have hu := phi_inv (mns p.1 q.1) hmp hm.2
    rw [phi_mns] at hu
    have hn : phi (nv x ps (k + 1) j) = ((phi x - phi q.1) * phi (nv x ps k j) - (phi x - phi p.1) * phi (nv x ps k (j + 1))) * phi (invp (mns p.1 q.1)) := by
      simp only [nv, hp, hq, Option.getD_some, nst]
      rw [phi_emod, phi_mul, phi_mns, phi_emod, phi_emod, phi_mul, phi_mul, phi_mns, phi_mns]
    rw [nodes_cons ps j k p hp] at i1
    rw [nodes_snoc ps (j + 1) k q (by rw [show j + 1 + k = j + (k + 1) by omega]; exact hq)] at i2
    have e3 : nodes ps j (k + 1 + 1) = phi p.1 :: (nodes ps (j + 1) k ++ [phi q.1]) := by
      rw [nodes_cons ps j (k + 1) p hp, nodes_snoc ps (j + 1) k q (by rw [show j + 1 + k = j + (k + 1) by omega]; exact hq)]
    rw [e3, hn]
    generalize nodes ps (j + 1) k = M at *
    have p1 : dd C (phi p.1 :: (M ++ [phi q.1]) ++ [phi x]) = dd C (phi p.1 :: phi q.1 :: (M ++ [phi x])) := by
      apply dd_perm
      rw [List.cons_append, List.append_assoc]
      exact List.Perm.cons _ (by simp)
    have p2 : dd C (M ++ [phi q.1] ++ [phi x]) = dd C (phi q.1 :: (M ++ [phi x])) := by
      apply dd_perm
      rw [List.append_assoc]
      simp
    have h4 := dd_step C (phi p.1) (phi q.1) (M ++ [phi x])
    rw [p1]
    rw [p2, prd_append] at i2
    simp only [prd, List.cons_append] at i1 i2 ⊢
    rw [prd_append]
    simp only [prd]
    exact nev_alg _ _ _ _ _ _ _ _ _ _ _ hu i1 i2 h4

/-- Interpolation through at least as many points of a polynomial as it has coefficients gives its values. -/
theorem nv_ev (ps : List (Int × Int)) (hg : Good ps) (C : List F) (hC : ∀ p, p ∈ ps → phi p.2 = ev C (phi p.1)) (x : Int) (hl : C.length ≤ ps.length) (h0 : 0 < ps.length) :
    phi (nv x ps (ps.length - 1) 0) = ev C (phi x) := by
  have h := neville ps hg C hC x (ps.length - 1) 0 (by omega)
  have hn : (nodes ps 0 (ps.length - 1 + 1)).length = ps.length := by
    unfold nodes
    rw [List.drop_zero, List.length_map, List.length_take]; omega
  rw [dd_long C _ (by rw [List.length_append, hn]; simp; omega)] at h
  grind

theorem nv_evp (ps : List (Int × Int)) (hg : Good ps) (c : List Int) (hC : ∀ p, p ∈ ps → p.2 = evp c p.1) (x : Int) (hl : c.length ≤ ps.length) (h0 : 0 < ps.length) :
    nv x ps (ps.length - 1) 0 = evp c x := by
  have h := nv_ev ps hg (c.map phi) (fun p hp => by rw [← phi_evp, ← hC p hp]) x (by simpa using hl) h0
  rw [← phi_evp] at h
  have r1 := nv_range x ps hg.elems (ps.length - 1) 0
  have r2 := evp_range c x
  exact phi_inj r1.1 r1.2 r2.1 r2.2 h

/-! ### interpolation exists -/
def addP : List F → List F → List F
  | [], m => m
  | a :: l, [] => a :: l
  | a :: l, b :: m => (a + b) :: addP l m
theorem ev_addP (l m : List F) (x : F) : ev (addP l m) x = ev l x + ev m x := by
  induction l generalizing m with
  | nil => simp only [addP, ev]; grind
  | cons a l ih =>
    cases m with
    | nil => simp only [addP, ev]; grind
    | cons b m => simp only [addP, ev, ih]; grind
theorem length_addP (l m : List F) (n : Nat) (h1 : l.length ≤ n) (h2 : m.length ≤ n) : (addP l m).length ≤ n := by
  induction l generalizing m n with
  | nil => exact h2
  | cons a l ih =>
    cases m with
    | nil => exact h1
    | cons b m =>
      cases n with
      | zero => simp at h1
      | succ n => simp only [addP, List.length_cons] at *; have := ih m n (by omega) (by omega); omega
theorem ev_smul (c : F) (l : List F) (x : F) : ev (l.map (c * ·)) x = c * ev l x := by
  induction l with
  | nil => simp only [List.map_nil, ev]; grind
  | cons a l ih => simp only [List.map_cons, ev, ih]; grind

/-- The polynomial that is zero at the nodes. -/
def zeroP : List F → List F
  | [] => [1]
  | a :: S => addP (0 :: zeroP S) ((zeroP S).map ((-a) * ·))
theorem ev_zeroP (S : List F) (x : F) : ev (zeroP S) x = prd x S := by
  induction S with
  | nil => simp only [zeroP, ev, prd]; grind
  | cons a S ih => simp only [zeroP, ev_addP, ev_smul, ev, ih, prd]; grind
theorem length_zeroP (S : List F) : (zeroP S).length ≤ S.length + 1 := by
  induction S with
  | nil => simp [zeroP]
  | cons a S ih =>
    simp only [zeroP, List.length_cons]
    exact length_addP _ _ _ (by simp; omega) (by simp; omega)
theorem prd_ne (x : F) (S : List F) (h : ∀ a, a ∈ S → x ≠ a) : prd x S ≠ 0 := by
  induction S with
  | nil => simp only [prd]; decide
  | cons a S ih =>
    intro e
    simp only [prd] at e
    have h1 : x - a ≠ 0 := fun h0 => h a (by simp) (by grind)
    exact ih (fun b hb => h b (by simp [hb])) (f_cancel _ _ h1 e)
theorem prd_zero (x : F) (S : List F) (h : x ∈ S) : prd x S = 0 := by
  induction S with
  | nil => cases h
  | cons a S ih =>
    simp only [prd]
    rcases List.mem_cons.1 h with rfl | h
    · grind
    · rw [ih h]; grind

theorem interp_exists (ps : List (F × F)) (hnd : (ps.map (·.1)).Nodup) : ∃ C : List F, C.length ≤ ps.length ∧ ∀ p, p ∈ ps → ev C p.1 = p.2 := by
  induction ps with
  | nil => exact ⟨[], by simp, by simp⟩
  | cons p ps ih =>
    rw [List.map_cons, List.nodup_cons] at hnd
    obtain ⟨C, hl, hC⟩ := ih hnd.2
    have hne : prd p.1 (ps.map (·.1)) ≠ 0 := prd_ne _ _ fun a ha e => hnd.1 (e ▸ ha)
    obtain ⟨u, hu⟩ := f_inv _ hne
    refine ⟨addP C ((zeroP (ps.map (·.1))).map (((p.2 - ev C p.1) * u) * ·)), length_addP _ _ _ (by simp; omega) (by have := length_zeroP (ps.map (·.1)); simp at this ⊢; omega), ?_⟩
    intro q hq
    rw [ev_addP, ev_smul, ev_zeroP]
    rcases List.mem_cons.1 hq with rfl | hq
    · grind
    · rw [hC q hq, prd_zero _ _ (List.mem_map_of_mem hq)]; grind
end

section
/-- A list of shares of the polynomial p at different places. -/
structure On (p : List Int) (l : List (Int × Int)) : Prop where
  place : ∀ s, s ∈ l → 1 ≤ s.1 ∧ s.1 ≤ 16
  value : ∀ s, s ∈ l → s.2 = evp p s.1
  nodup : (l.map (·.1)).Nodup

theorem On.valid {p : List Int} {l : List (Int × Int)} (h : On p l) : l.all validB = true := by
  rw [List.all_eq_true]
  intro s hs
  rw [validB_iff, elemB_iff, h.value s hs]
  have := h.place s hs
  have := evp_range p s.1
  omega

theorem good_of (l : List (Int × Int)) (hv : l.all validB = true) (hn : (l.map (·.1)).Nodup) : Good l :=
  ⟨fun s hs => by
    have := (validB_iff s).1 (List.all_eq_true.1 hv s hs)
    exact ⟨by rw [elemB_iff]; omega, this.2.2⟩, hn⟩

theorem Good.take {l : List (Int × Int)} (h : Good l) (n : Nat) : Good (l.take n) :=
  ⟨fun s hs => h.elems s (List.mem_of_mem_take hs), h.nodup.sublist ((List.take_sublist n l).map _)⟩

theorem On.good {p : List Int} {l : List (Int × Int)} (h : On p l) : Good l := good_of l h.valid h.nodup

theorem On.sublist {p : List Int} {l m : List (Int × Int)} (h : On p l) (hs : m.Sublist l) : On p m :=
  ⟨fun s hm => h.place s (hs.mem hm), fun s hm => h.value s (hs.mem hm), h.nodup.sublist (hs.map _)⟩

theorem On.nv_take {p : List Int} {l : List (Int × Int)} (h : On p l) (hp : p.length ≤ l.length) (h0 : 0 < l.length) (x : Int) : nv x l (l.length - 1) 0 = evp p x :=
  nv_evp l h.good p h.value x hp h0

/-- Enough shares are joined to the constant. -/
theorem joinF_on (p : List Int) (n : Nat) (l : List (Int × Int)) (h : On p l) (hn : 1 ≤ n) (hn' : n ≤ 16) (hp : p.length ≤ n) (hl : n ≤ l.length) : joinF l n = (evp p 0, 0) := by
  have ht : (l.take n).length = n := List.length_take_of_le hl
  have hv : ∀ x, nv x (l.take n) (n - 1) 0 = evp p x := by
    intro x
    have := (h.sublist (List.take_sublist n l)).nv_take (by omega) (by omega) x
    rwa [ht] at this
  rw [joinF_ok l n hn hn' h.valid h.nodup hl (fun s hs => by rw [hv, h.value s (List.mem_of_mem_drop hs)]), hv]

theorem joinF_on_few (p : List Int) (n : Nat) (l : List (Int × Int)) (h : On p l) (hn : 1 ≤ n) (hn' : n ≤ 16) (hl : l.length < n) : joinF l n = (0, 25) :=
  joinF_few l n (by omega) (by omega) h.valid h.nodup (by omega)

/-- More than enough shares, one of them with another value: ErrProof. -/
theorem joinF_on_wrong (p : List Int) (n : Nat) (l : List (Int × Int)) (h : On p l) (hn : 1 ≤ n) (hn' : n ≤ 16) (hp : p.length ≤ n) (hl : n < l.length)
    (k : Nat) (s : Int × Int) (hs : l[k]? = some s) (y : Int) (y0 : 0 ≤ y) (y1 : y < 2147483647) (hy : y ≠ s.2) : joinF (l.set k (s.1, y)) n = (0, 24) := by
  have hk : k < l.length := (List.getElem?_eq_some_iff.1 hs).1
  have hsm := List.mem_of_getElem? hs
  have hmap : (l.set k (s.1, y)).map (·.1) = l.map (·.1) := by
    apply List.ext_getElem?
    intro i
    by_cases hi : i = k
    · subst hi
      rw [List.getElem?_map, List.getElem?_map, hs, List.getElem?_set_self hk]; rfl
    · rw [List.getElem?_map, List.getElem?_map, List.getElem?_set_ne (fun e => hi e.symm)]
  have hv : (l.set k (s.1, y)).all validB = true := by
    rw [List.all_eq_true]
    intro t ht
    rcases List.mem_or_eq_of_mem_set ht with ht | rfl
    · exact List.all_eq_true.1 h.valid t ht
    · have hp := h.place s hsm
      rw [validB_iff, elemB_iff]; simp only; omega
  have hnd : ((l.set k (s.1, y)).map (·.1)).Nodup := by rw [hmap]; exact h.nodup
  have hg := good_of _ hv hnd
  have hlen : (l.set k (s.1, y)).length = l.length := by simp
  have hgk : (l.set k (s.1, y))[k]? = some (s.1, y) := by simp [hk]
  by_cases hall : ∀ t, t ∈ (l.set k (s.1, y)).drop n → nv t.1 ((l.set k (s.1, y)).take n) (n - 1) 0 = t.2
  · exfalso
    generalize hl' : l.set k (s.1, y) = l' at *
    have ht : (l'.take n).length = n := List.length_take_of_le (by omega)
    have hphi : (((l'.take n).map fun p => (phi p.1, phi p.2)).map (·.1)).Nodup := by
      have e : ((l'.take n).map fun p => (phi p.1, phi p.2)).map (·.1) = ((l'.take n).map (·.1)).map phi := by rw [List.map_map, List.map_map]; rfl
      rw [e]
      refine List.pairwise_map.2 (List.Pairwise.imp_of_mem ?_ (hg.take n).nodup)
      intro a b ha hb hab
      obtain ⟨pa, hpa, rfl⟩ := List.mem_map.1 ha
      obtain ⟨pb, hpb, rfl⟩ := List.mem_map.1 hb
      have r1 := (elemB_iff _).1 ((hg.take n).elems pa hpa).1
      have r2 := (elemB_iff _).1 ((hg.take n).elems pb hpb).1
      exact phi_ne r1.1 r1.2 r2.1 r2.2 hab
    obtain ⟨C, hCl, hC⟩ := interp_exists _ hphi
    have hCt : ∀ t, t ∈ l'.take n → phi t.2 = ev C (phi t.1) := fun t ht => (hC _ (List.mem_map_of_mem (f := fun p : Int × Int => (phi p.1, phi p.2)) ht)).symm
    have hnv : ∀ x, phi (nv x (l'.take n) (n - 1) 0) = ev C (phi x) := by
      intro x
      have := nv_ev (l'.take n) (hg.take n) C hCt x (by simpa using hCl) (by omega)
      rwa [ht] at this
    have hCall : ∀ t, t ∈ l' → phi t.2 = ev C (phi t.1) := by
      intro t ht'
      rw [← List.take_append_drop n l'] at ht'
      rcases List.mem_append.1 ht' with h1 | h1
      · exact hCt t h1
      · rw [← hnv, hall t h1]
    -- the others, which lie on p too
    have hsub : ((l'.eraseIdx k).take n).Sublist l' := (List.take_sublist _ _).trans (List.eraseIdx_sublist _ _)
    have hql : ((l'.eraseIdx k).take n).length = n := by
      rw [List.length_take_of_le]; rw [List.length_eraseIdx_of_lt (by omega)]; omega
    have hqon : ∀ t, t ∈ (l'.eraseIdx k).take n → t.2 = evp p t.1 := by
      intro t ht'
      have hm := List.mem_of_mem_take ht'
      obtain ⟨i, hi⟩ := List.getElem?_of_mem hm
      rw [List.getElem?_eraseIdx] at hi
      rw [← hl'] at hi
      split at hi
      · rw [List.getElem?_set_ne (by omega)] at hi
        exact h.value t (List.mem_of_getElem? hi)
      · rw [List.getElem?_set_ne (by omega)] at hi
        exact h.value t (List.mem_of_getElem? hi)
    have hqg : Good ((l'.eraseIdx k).take n) := ⟨fun t ht => hg.elems t (hsub.mem ht), hg.nodup.sublist (hsub.map _)⟩
    have h1 := nv_evp _ hqg p hqon s.1 (by omega) (by omega)
    have h2 := nv_ev _ hqg C (fun t ht => hCall t (hsub.mem ht)) s.1 (by rw [hql]; rw [List.length_map, ht] at hCl; exact hCl) (by omega)
    rw [h1] at h2
    have h3 := hCall (s.1, y) (List.mem_of_getElem? hgk)
    simp only at h3
    rw [← h2, ← h.value s hsm] at h3
    have hr := evp_range p s.1
    rw [← h.value s hsm] at hr
    exact hy (phi_inj y0 y1 hr.1 hr.2 h3)
  · obtain ⟨t, ht⟩ := Classical.not_forall.1 hall
    have ht1 : t ∈ (l.set k (s.1, y)).drop n := Classical.byContradiction fun e => ht fun h' => absurd h' e
    have ht2 : ¬ nv t.1 ((l.set k (s.1, y)).take n) (n - 1) 0 = t.2 := fun e => ht fun _ => e
    obtain ⟨i, hi⟩ := List.getElem?_of_mem ht1
    exact joinF_wrong _ n hn hn' hv hnd (by omega) i t hi ht2
end
end

section
open Go.RowKit

theorem evp_zero (a : Int) (l : List Int) (h : elemB a = true) : evp (a :: l) 0 = a := by
  have := (elemB_iff a).1 h
  simp only [evp]; omega

theorem elemB_mod (a : Int) : elemB (a % 2147483647) = true := by rw [elemB_iff]; omega

/-- The shares of a polynomial lie on it. -/
theorem shs_on (p : List Int) (m : Nat) (hm : m ≤ 16) : On p (shs p m) := by
  refine ⟨fun s hs => ?_, fun s hs => ?_, ?_⟩
  · obtain ⟨i, hi, rfl⟩ := List.mem_map.1 hs
    have := List.mem_range.1 hi
    simp only; omega
  · obtain ⟨i, hi, rfl⟩ := List.mem_map.1 hs
    rfl
  · have e : (shs p m).map (·.1) = (List.range m).map fun (i : Nat) => (i : Int) + 1 := by simp [shs]
    rw [e]
    refine List.pairwise_map.2 (List.Pairwise.imp ?_ List.nodup_range)
    intro a b hab h
    exact hab (by omega)

theorem On.reverse {p : List Int} {l : List (Int × Int)} (h : On p l) : On p l.reverse :=
  ⟨fun s hs => h.place s (by simpa using hs), fun s hs => h.value s (by simpa using hs), by rw [List.map_reverse]; exact (List.reverse_perm _).nodup_iff.2 h.nodup⟩
end

section
/-- The power, by repeated multiplication. -/
def fpw (x : F) : Nat → F
  | 0 => 1
  | n + 1 => fpw x n * x
theorem fpw_add (x : F) (m n : Nat) : fpw x (m + n) = fpw x m * fpw x n := by
  induction n with
  | zero => simp only [Nat.add_zero, fpw]; grind
  | succ n ih => rw [← Nat.add_assoc]; simp only [fpw, ih]; grind
theorem fpw_sq (x : F) (n : Nat) : fpw (x * x) n = fpw x (2 * n) := by
  induction n with
  | zero => rfl
  | succ n ih => rw [show 2 * (n + 1) = 2 * n + 1 + 1 from by omega]; simp only [fpw, ih]; grind
def prodF : List F → F
  | [] => 1
  | a :: l => a * prodF l
theorem prodF_perm {l m : List F} (h : l.Perm m) : prodF l = prodF m := by
  induction h with
  | nil => rfl
  | cons a _ ih => simp only [prodF, ih]
  | swap a b l => simp only [prodF]; grind
  | trans _ _ h1 h2 => rw [h1, h2]
theorem prodF_map (x : F) (l : List F) : prodF (l.map (x * ·)) = fpw x l.length * prodF l := by
  induction l with
  | nil => simp only [List.map_nil, List.length_nil, prodF, fpw]; grind
  | cons a l ih => simp only [List.map_cons, List.length_cons, prodF, fpw, ih]; grind
theorem prodF_ne (l : List F) (h : ∀ a ∈ l, a ≠ 0) : prodF l ≠ 0 := by
  induction l with
  | nil => simp only [prodF]; decide
  | cons a l ih =>
    intro e
    exact ih (fun b hb => h b (List.mem_cons_of_mem _ hb)) (f_cancel _ _ (h a List.mem_cons_self) e)
theorem fermat_gen (n : Nat) (hn : n + 1 = 2147483647) (x : F) (hx : x ≠ 0) : fpw x n = 1 := by
  obtain ⟨L, hL⟩ : ∃ L : List F, L = (List.range n).map (fun i => Fin.ofNat 2147483647 (i + 1)) := ⟨_, rfl⟩
  have hlen : L.length = n := by rw [hL, List.length_map, List.length_range]
  have hnd : L.Nodup := by
    rw [hL, List.Nodup, List.pairwise_map]
    refine List.Pairwise.imp_of_mem ?_ (List.nodup_range (n := n))
    intro a b ha hb hab e
    have h1 := List.mem_range.1 ha
    have h2 := List.mem_range.1 hb
    have h3 := congrArg Fin.val e
    simp only [Fin.ofNat] at h3
    rw [Nat.mod_eq_of_lt (by omega), Nat.mod_eq_of_lt (by omega)] at h3
    omega
  have hmem : ∀ y : F, y ∈ L ↔ y ≠ 0 := by
    intro y
    rw [hL, List.mem_map]
    constructor
    · rintro ⟨i, hi, rfl⟩ e
      have h1 := List.mem_range.1 hi
      have h3 := congrArg Fin.val e
      simp only [Fin.ofNat] at h3
      rw [Nat.mod_eq_of_lt (by omega)] at h3
      exact absurd h3 (Nat.succ_ne_zero _)
    · intro hy
      have h0 : y.val ≠ 0 := fun e => hy (Fin.ext e)
      have h1 := y.isLt
      refine ⟨y.val - 1, List.mem_range.2 (by omega), Fin.ext ?_⟩
      simp only [Fin.ofNat]
      rw [Nat.mod_eq_of_lt (by omega)]
      omega
  obtain ⟨z, hz⟩ := f_inv x hx
  have hp : (L.map (x * ·)).Perm L := by
    refine (List.perm_ext_iff_of_nodup ?_ hnd).2 fun y => ?_
    · rw [List.Nodup, List.pairwise_map]
      refine List.Pairwise.imp ?_ hnd
      intro a b hab e
      exact hab (by
        have h1 : z * (x * a) = z * (x * b) := congrArg (z * ·) e
        have h2 : z * (x * a) = (z * x) * a := by grind
        have h3 : z * (x * b) = (z * x) * b := by grind
        rw [h2, h3, hz] at h1
        have h4 : (1 : F) * a = a := by grind
        have h5 : (1 : F) * b = b := by grind
        rw [h4, h5] at h1
        exact h1)
    · rw [hmem, List.mem_map]
      constructor
      · rintro ⟨a, ha, rfl⟩ e
        exact (hmem a).1 ha (f_cancel _ _ hx e)
      · intro hy
        refine ⟨z * y, (hmem _).2 fun e => ?_, ?_⟩
        · apply hy
          have h1 : x * (z * y) = (z * x) * y := by grind
          rw [e, hz] at h1
          grind
        · have h1 : x * (z * y) = (z * x) * y := by grind
          show x * (z * y) = y
          rw [h1, hz]; grind
  have h1 := prodF_perm hp
  rw [prodF_map, hlen] at h1
  have hne := prodF_ne L (fun a ha => (hmem a).1 ha)
  obtain ⟨u, hu⟩ := f_inv _ hne
  have h2 : (fpw x n * prodF L) * u = prodF L * u := by rw [h1]
  have h3 : (fpw x n * prodF L) * u = fpw x n * (u * prodF L) := by grind
  have h4 : prodF L * u = u * prodF L := by grind
  rw [h3, h4, hu] at h2
  grind
/-- Fermat: the power of p - 2 is the inverse. -/
theorem fermat_inv (n : Nat) (hn : n + 2 = 2147483647) (x : F) (hx : x ≠ 0) : fpw x n * x = 1 := fermat_gen (n + 1) (by omega) x hx
end

section
def ptn (ps : List (Int × Int)) (j : Nat) : Int × Int := ps[j]?.getD (0, 0)
/-- The first k places, but place i. -/
def skp (ps : List (Int × Int)) (i : Nat) : Nat → List F
  | 0 => []
  | k + 1 => if k = i then skp ps i k else skp ps i k ++ [phi (ptn ps k).1]
theorem mem_skp (ps : List (Int × Int)) (i k : Nat) (a : F) : a ∈ skp ps i k ↔ ∃ j, j < k ∧ j ≠ i ∧ a = phi (ptn ps j).1 := by
  induction k with
  | zero => simp [skp]
  | succ k ih =>
    rw [skp]
    by_cases h : k = i
    · rw [if_pos h, ih]
      constructor
      · rintro ⟨j, h1, h2, h3⟩; exact ⟨j, by omega, h2, h3⟩
      · rintro ⟨j, h1, h2, h3⟩; exact ⟨j, by omega, h2, h3⟩
    · rw [if_neg h, List.mem_append, ih, List.mem_singleton]
      constructor
      · rintro (⟨j, h1, h2, h3⟩ | h3)
        · exact ⟨j, by omega, h2, h3⟩
        · exact ⟨k, by omega, h, h3⟩
      · rintro ⟨j, h1, h2, h3⟩
        by_cases hj : j = k
        · subst hj; exact .inr h3
        · exact .inl ⟨j, by omega, h2, h3⟩
theorem length_skp (ps : List (Int × Int)) (i k : Nat) : (skp ps i k).length ≤ k ∧ (i < k → (skp ps i k).length + 1 = k) := by
  induction k with
  | zero => simp [skp]
  | succ k ih =>
    rw [skp]
    by_cases h : k = i
    · rw [if_pos h]
      refine ⟨by omega, fun _ => ?_⟩
      have h2 : ∀ m, m ≤ i → (skp ps i m).length = m := by
        intro m
        induction m with
        | zero => intro _; rfl
        | succ m ihm => intro hm; rw [skp, if_neg (by omega), List.length_append, List.length_singleton, ihm (by omega)]
      rw [h2 k (by omega)]
    · rw [if_neg h, List.length_append, List.length_singleton]
      exact ⟨by omega, fun hi => by have := ih.2 (by omega); omega⟩

/-- Lagrange's sum of the first k terms. -/
def lagS (ps : List (Int × Int)) (u : Nat → F) (x : F) : Nat → F
  | 0 => 0
  | k + 1 => lagS ps u x k + phi (ptn ps k).2 * prd x (skp ps k ps.length) * u k
theorem lagS_poly (ps : List (Int × Int)) (u : Nat → F) (k : Nat) (hk : k ≤ ps.length) : ∃ C : List F, C.length ≤ ps.length ∧ ∀ x, ev C x = lagS ps u x k := by
  induction k with
  | zero => exact ⟨[], Nat.zero_le _, fun x => rfl⟩
  | succ k ih =>
    obtain ⟨C, h1, h2⟩ := ih (by omega)
    refine ⟨addP C ((zeroP (skp ps k ps.length)).map ((phi (ptn ps k).2 * u k) * ·)), length_addP _ _ _ h1 ?_, fun x => ?_⟩
    · rw [List.length_map]
      have h3 := length_zeroP (skp ps k ps.length)
      have h4 := (length_skp ps k ps.length).2 (by omega)
      omega
    · rw [ev_addP, ev_smul, ev_zeroP, h2, lagS]; grind
theorem lagS_node (ps : List (Int × Int)) (u : Nat → F) (hu : ∀ i, i < ps.length → u i * prd (phi (ptn ps i).1) (skp ps i ps.length) = 1) (j : Nat) (hj : j < ps.length) (k : Nat) (hk : k ≤ ps.length) :
    lagS ps u (phi (ptn ps j).1) k = if j < k then phi (ptn ps j).2 else 0 := by
  induction k with
  | zero => rw [if_neg (by omega)]; rfl
  | succ k ih =>
    rw [lagS, ih (by omega)]
    by_cases h : j = k
    · subst h
      rw [if_neg (by omega), if_pos (by omega)]
      have := hu j hj
      have e : phi (ptn ps j).2 * prd (phi (ptn ps j).1) (skp ps j ps.length) * u j = phi (ptn ps j).2 * (u j * prd (phi (ptn ps j).1) (skp ps j ps.length)) := by grind
      rw [e, this]; grind
    · rw [prd_zero _ _ ((mem_skp ps k ps.length _).2 ⟨j, hj, h, rfl⟩)]
      by_cases h2 : j < k
      · rw [if_pos h2, if_pos (by omega)]; grind
      · rw [if_neg h2, if_neg (by omega)]; grind
theorem lag_nv (ps : List (Int × Int)) (hg : Good ps) (u : Nat → F) (hu : ∀ i, i < ps.length → u i * prd (phi (ptn ps i).1) (skp ps i ps.length) = 1) (x : Int) (h0 : 0 < ps.length) :
    phi (nv x ps (ps.length - 1) 0) = lagS ps u (phi x) ps.length := by
  obtain ⟨C, h1, h2⟩ := lagS_poly ps u ps.length (Nat.le_refl _)
  rw [nv_ev ps hg C (fun p hp => ?_) x h1 h0, h2]
  obtain ⟨j, hj⟩ := List.mem_iff_getElem?.1 hp
  have hjl := (List.getElem?_eq_some_iff.1 hj).1
  have e : ptn ps j = p := by unfold ptn; rw [hj]; rfl
  have h3 := lagS_node ps u hu j hjl ps.length (Nat.le_refl _)
  rw [if_pos hjl, e] at h3
  rw [h2, h3]

/-- What the reference's loops hold: 'above', 'below' behind the first k points, the sum behind the first k terms. -/
def abv (ps : List (Int × Int)) (x : Int) (i : Nat) (y : Int) : Nat → Int
  | 0 => y
  | k + 1 => if k = i then abv ps x i y k else abv ps x i y k * mns x (ptn ps k).1 % 2147483647
theorem phi_abv (ps : List (Int × Int)) (x : Int) (i : Nat) (y : Int) (k : Nat) : phi (abv ps x i y k) = phi y * prd (phi x) (skp ps i k) := by
  induction k with
  | zero => simp only [abv, skp, prd]; grind
  | succ k ih =>
    rw [abv, skp]
    by_cases h : k = i
    · rw [if_pos h, if_pos h, ih]
    · rw [if_neg h, if_neg h, phi_emod, phi_mul, phi_mns, ih, prd_append]
      simp only [prd]; grind
theorem abv_range (ps : List (Int × Int)) (x : Int) (i : Nat) (y : Int) (h0 : 0 ≤ y) (h1 : y < 2147483647) (k : Nat) : 0 ≤ abv ps x i y k ∧ abv ps x i y k < 2147483647 := by
  induction k with
  | zero => exact ⟨h0, h1⟩
  | succ k ih =>
    rw [abv]
    split
    · exact ih
    · omega
/-- The power as the reference has it, an element. -/
def ipw (a : Int) (n : Nat) : Int := ((fpw (phi a) n).val : Int)
theorem phi_ipw (a : Int) (n : Nat) : phi (ipw a n) = fpw (phi a) n := by
  apply Fin.ext
  have := (fpw (phi a) n).isLt
  show (((fpw (phi a) n).val : Int) % 2147483647).toNat = _
  omega
theorem ipw_range (a : Int) (n : Nat) : 0 ≤ ipw a n ∧ ipw a n < 2147483647 := by
  have := (fpw (phi a) n).isLt
  unfold ipw; omega
def rsm (ps : List (Int × Int)) (x : Int) : Nat → Int
  | 0 => 0
  | k + 1 => (rsm ps x k + abv ps x k (ptn ps k).2 ps.length * ipw (abv ps (ptn ps k).1 k 1 ps.length) 2147483645 % 2147483647) % 2147483647
theorem rsm_range (ps : List (Int × Int)) (x : Int) (k : Nat) : 0 ≤ rsm ps x k ∧ rsm ps x k < 2147483647 := by
  cases k with
  | zero => exact ⟨Int.le_refl _, show (0 : Int) < 2147483647 by omega⟩
  | succ k => rw [rsm]; omega
theorem rsm_nv (ps : List (Int × Int)) (hg : Good ps) (x : Int) (h0 : 0 < ps.length) : rsm ps x ps.length = nv x ps (ps.length - 1) 0 := by
  obtain ⟨e, he⟩ : ∃ e, e = 2147483645 := ⟨_, rfl⟩
  have hnode : ∀ i, i < ps.length → ∀ a, a ∈ skp ps i ps.length → phi (ptn ps i).1 ≠ a := by
    intro i hi a ha
    obtain ⟨j, h1, h2, rfl⟩ := (mem_skp ps i ps.length a).1 ha
    obtain ⟨p, hp⟩ := get_some ps i hi
    obtain ⟨q, hq⟩ := get_some ps j h1
    have e1 : ptn ps i = p := by unfold ptn; rw [hp]; rfl
    have e2 : ptn ps j = q := by unfold ptn; rw [hq]; rfl
    rw [e1, e2]
    have r1 := (elemB_iff _).1 (hg.elems p (List.mem_of_getElem? hp)).1
    have r2 := (elemB_iff _).1 (hg.elems q (List.mem_of_getElem? hq)).1
    refine phi_ne r1.1 r1.2 r2.1 r2.2 fun h => ?_
    have n1 : (ps.map (·.1))[i]? = some p.1 := by rw [List.getElem?_map, hp]; rfl
    have n2 : (ps.map (·.1))[j]? = some q.1 := by rw [List.getElem?_map, hq]; rfl
    obtain ⟨l1, g1⟩ := List.getElem?_eq_some_iff.1 n1
    obtain ⟨l2, g2⟩ := List.getElem?_eq_some_iff.1 n2
    exact h2 ((List.getElem_inj hg.nodup (h₀ := l2) (h₁ := l1)).1 (by rw [g1, g2, h]))
  have hu : ∀ i, i < ps.length → fpw (prd (phi (ptn ps i).1) (skp ps i ps.length)) e * prd (phi (ptn ps i).1) (skp ps i ps.length) = 1 := fun i hi =>
    fermat_inv e (by omega) _ (prd_ne _ _ (hnode i hi))
  have h1 := lag_nv ps hg (fun i => fpw (prd (phi (ptn ps i).1) (skp ps i ps.length)) e) hu x h0
  have h2 : ∀ k, phi (rsm ps x k) = lagS ps (fun i => fpw (prd (phi (ptn ps i).1) (skp ps i ps.length)) e) (phi x) k := by
    intro k
    induction k with
    | zero => rfl
    | succ k ih =>
      rw [rsm, lagS, phi_emod, phi_add, ih, phi_emod, phi_mul, ← he, phi_ipw, phi_abv, phi_abv, phi_one]
      congr 3
      grind
  have r1 := rsm_range ps x ps.length
  have r2 := nv_range x ps hg.elems (ps.length - 1) 0
  exact phi_inj r1.1 r1.2 r2.1 r2.2 (by rw [h2, h1])
/-- The reference's evaluation: the sum of the first k terms. -/
def evs (l : List Int) (x : Int) : Nat → Int
  | 0 => 0
  | k + 1 => (evs l x k + (l[k]?.getD 0) * ipw x k % 2147483647) % 2147483647
theorem ev_snoc (l : List F) (c x : F) : ev (l ++ [c]) x = ev l x + c * fpw x l.length := by
  induction l with
  | nil => simp only [List.nil_append, ev, List.length_nil, fpw]; grind
  | cons a l ih => simp only [List.cons_append, ev, ih, List.length_cons, fpw]; grind
theorem evs_range (l : List Int) (x : Int) (k : Nat) : 0 ≤ evs l x k ∧ evs l x k < 2147483647 := by
  cases k with
  | zero => exact ⟨Int.le_refl _, show (0 : Int) < 2147483647 by omega⟩
  | succ k => rw [evs]; omega
theorem phi_evs (l : List Int) (x : Int) (k : Nat) (hk : k ≤ l.length) : phi (evs l x k) = ev ((l.take k).map phi) (phi x) := by
  induction k with
  | zero => rfl
  | succ k ih =>
    obtain ⟨a, ha⟩ := get_some l k (by omega)
    rw [evs, phi_emod, phi_add, phi_emod, phi_mul, phi_ipw, ih (by omega), ha, take_snoc l k a ha, List.map_append, List.map_singleton, ev_snoc, List.length_map, List.length_take, Nat.min_eq_left (by omega)]
    rfl
theorem evs_evp (l : List Int) (x : Int) : evs l x l.length = evp l x := by
  have r1 := evs_range l x l.length
  have r2 := evp_range l x
  exact phi_inj r1.1 r1.2 r2.1 r2.2 (by rw [phi_evs l x l.length (Nat.le_refl _), List.take_length, phi_evp])
/-- The power by squaring: what the loop of 'power' keeps. -/
theorem pow_even (o a : F) (n : Nat) (h : n % 2 = 0) : o * fpw a n = o * fpw (a * a) (n / 2) := by
  rw [fpw_sq, show 2 * (n / 2) = n from by omega]
theorem pow_odd (o a : F) (n : Nat) (h : n % 2 = 1) : o * fpw a n = o * a * fpw (a * a) (n / 2) := by
  rw [fpw_sq]
  have e : n = 2 * (n / 2) + 1 := by omega
  have h2 : fpw a n = fpw a (2 * (n / 2)) * a := by rw [e]; simp only [fpw]; congr 2; omega
  rw [h2]; grind
end

end Go.Proofs.YtjfondfjdhjooaaGreatDoor
