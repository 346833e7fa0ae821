/- Several texts in one: Field, Inv, Eval, Join1, Arr, Interp. -/
-- merged
import Derived.Test.YtbefcipeojahfaaGreatDoorBase
import Derived.Maps.OwnOps
import Derived.Maps.Views
namespace Go.Proofs.YtbefcipeojahfaaGreatDoor

section
open Go.RowKit

def elemB (a : Int) : Bool := decide (0 ≤ a) && decide (a < 2147483647)

theorem element_any (a : Int) (w : World) :
    Calls Tryz.prog 76 #[.int .i64 a] w fun e w' => e = .returned (.bool (elemB a)) ∧ w = w' := by
  by_cases h0 : 0 ≤ a
  · by_cases h1 : a < 2147483647
    · go_enter Tryz.func76, Tryz.ntmps76
      go_wp2
      go_ret
      exact ⟨by simp [elemB, h0, h1], rfl⟩
    · go_enter Tryz.func76, Tryz.ntmps76
      go_wp2
      go_ret
      exact ⟨by simp [elemB, h0, h1], rfl⟩
  · go_enter Tryz.func76, Tryz.ntmps76
    go_wp2
    go_ret
    exact ⟨by simp [elemB]; omega, rfl⟩

set_option maxHeartbeats 400000 in
theorem elements_any (A : Option Addr) (c : Nat) (xs : List Int) (w : World) (hv : Ints w A xs) (hmax : xs.length ≤ 9223372036854775807) :
    Calls Tryz.prog 75 #[.slice A xs.length c] w fun e w' => e = .returned (.bool (xs.all elemB)) ∧ w = w' := by
  have HV := Lib.hid hv; clear hv
  go_enter Tryz.func75, Tryz.ntmps75
  go_wp2
  go_loop [7] (fun i => ∃ k : Nat, k ≤ xs.length ∧ i = .int .i64 k ∧ (xs.take k).all elemB = true) (fun i => xs.length - (intOf i).toNat)
  case atStart => exact ⟨0, Nat.zero_le _, rfl, rfl⟩
  case round =>
    obtain ⟨k, hk, rfl, hall⟩ := hrel
    have HALL := Lib.hid hall; clear hall
    by_cases hlt : k < xs.length
    · obtain ⟨x, hx⟩ := get_some xs k hlt
      obtain ⟨b, off, rfl, hcell⟩ := HV.out.at_ hx
      have HX := Lib.hid hx; clear hx
      cases hb : elemB x
      · go_wp2_with (go_at_call 76; refine (element_any _ _).mono ?_; rintro e w' ⟨rfl, rfl⟩)
        go_ret
        exact ⟨ret_bool (all_false_of elemB xs k x HX.out hb).symm, rfl⟩
      · go_wp2_with (go_at_call 76; refine (element_any _ _).mono ?_; rintro e w' ⟨rfl, rfl⟩)
        go_round
        case rel => exact ⟨k + 1, by omega, by go_num, by rw [all_take_succ elemB xs k x HX.out, HALL.out, hb]; rfl⟩
        case measure => simp [intOf]; omega
    · have hk' : xs.length ≤ k := by omega
      go_wp2
      go_ret
      exact ⟨ret_bool (by rw [← HALL.out, List.take_of_length_le hk']), rfl⟩

/-- A difference modulo the prime. -/
def mns (a b : Int) : Int := (a - b + 2147483647) % 2147483647

theorem mns_range (a b : Int) : 0 ≤ mns a b ∧ mns a b < 2147483647 := by unfold mns; omega

theorem mul_range (a b : Int) (ha : 0 ≤ a) (ha' : a ≤ 2147483647) (hb : 0 ≤ b) (hb' : b ≤ 2147483647) : 0 ≤ a * b ∧ a * b ≤ 4611686014132420609 :=
  ⟨Int.mul_nonneg ha hb, Int.le_trans (Int.mul_le_mul ha' hb' hb (by omega)) (by decide)⟩

theorem minus_any (a b : Int) (w : World) (ha : 0 ≤ a) (ha' : a ≤ 2147483647) (hb : 0 ≤ b) (hb' : b ≤ 2147483647) :
    Calls Tryz.prog 78 #[.int .i64 a, .int .i64 b] w fun e w' => e = .returned (.int .i64 (mns a b)) ∧ w = w' := by
  go_enter Tryz.func78, Tryz.ntmps78
  go_wp2
  go_ret
  exact ⟨rfl, rfl⟩

theorem Ints_two (w : World) (T : Nat) (a b : Int) : Ints (w.alloc (.cells #[.int .i64 a, .int .i64 b] T)) (some ⟨w.heap.size, 0, none⟩) [a, b] := by
  refine ⟨rfl, fun _ => ⟨_, _, rfl, fun j u hu => ?_⟩⟩
  rw [World.cell?_alloc_at _ _ _ _ rfl]
  match j, hu with
  | 0, hu => simp at hu; simp [hu]
  | 1, hu => simp at hu; simp [hu]
end

section
open Go.RowKit

/-! ### Plain: the prime, gcd -/
theorem no_div : ((List.range 46341).all fun d => decide (d < 2) || decide (2147483647 % d ≠ 0)) = true := by decide +kernel

theorem prime_dvd (g : Nat) (h : g ∣ 2147483647) : g = 1 ∨ g = 2147483647 := by
  have nd : ∀ d, d < 46341 → 2 ≤ d → ¬ d ∣ 2147483647 := by
    intro d hd h2 hdv
    have h := List.all_eq_true.1 no_div d (List.mem_range.2 hd)
    simp only [ne_eq, Bool.or_eq_true, decide_eq_true_eq] at h
    rcases h with h | h
    · omega
    · exact h (Nat.mod_eq_zero_of_dvd hdv)
  obtain ⟨k, hk⟩ := h
  by_cases hg : g < 46341
  · by_cases h2 : 2 ≤ g
    · exact absurd ⟨k, hk⟩ (nd g hg h2)
    · have : g = 0 ∨ g = 1 := by omega
      rcases this with rfl | rfl
      · omega
      · exact Or.inl rfl
  · by_cases hk2 : k < 46341
    · by_cases h2 : 2 ≤ k
      · exact absurd ⟨g, by rw [Nat.mul_comm]; exact hk⟩ (nd k hk2 h2)
      · have : k = 0 ∨ k = 1 := by omega
        rcases this with rfl | rfl
        · omega
        · exact Or.inr (by omega)
    · have h1 : 46341 * 46341 ≤ g * k := Nat.mul_le_mul (by omega) (by omega)
      omega

theorem gcd_one (a : Int) (h0 : 0 < a) (h1 : a < 2147483647) : Int.gcd 2147483647 a = 1 := by
  have hd : Int.gcd 2147483647 a ∣ 2147483647 := by
    have := Int.gcd_dvd_left (a := 2147483647) (b := a)
    have h2 := Int.ofNat_dvd.1 (show ((Int.gcd 2147483647 a : Nat) : Int) ∣ ((2147483647 : Nat) : Int) from this)
    exact h2
  have hle : Int.gcd 2147483647 a ≤ a.natAbs := Nat.le_of_dvd (by omega) (Int.gcd_dvd_natAbs_right 2147483647 a)
  rcases prime_dvd _ hd with h | h
  · exact h
  · omega

/-- What Euclid's loop keeps. -/
structure Eu (a r s u v : Int) : Prop where
  r0 : 0 < r
  u0 : 0 ≤ u
  rp : r ≤ 2147483647
  up : u ≤ 2147483647
  sl : -2147483647 ≤ s ∧ s ≤ 2147483647
  vl : -2147483647 ≤ v ∧ v ≤ 2147483647
  cr : ∃ k, r = s * a + k * 2147483647
  cu : ∃ k, u = v * a + k * 2147483647
  gc : Int.gcd r u = Int.gcd 2147483647 a
  sg : (0 ≤ s ∧ v ≤ 0 ∧ u * s - r * v = 2147483647) ∨ (s ≤ 0 ∧ 0 ≤ v ∧ r * v - u * s = 2147483647)

theorem Eu.start (a : Int) (h : 0 < a) (h' : a < 2147483647) : Eu a 2147483647 0 a 1 :=
  ⟨by omega, by omega, by omega, by omega, by omega, by omega, ⟨1, by omega⟩, ⟨0, by omega⟩, rfl, Or.inr ⟨by omega, by omega, by omega⟩⟩

theorem mul_ge_self (u x : Int) (hu : 0 < u) (hx : 0 ≤ x) : x ≤ u * x := by
  have := Int.mul_le_mul_of_nonneg_right (show 1 ≤ u by omega) hx
  omega

theorem Eu.next {a r s u v : Int} (h : Eu a r s u v) (hu : 0 < u) : Eu a u v (r - r / u * u) (s - r / u * v) := by
  obtain ⟨r0, u0, rp, up, sl, vl, ⟨k1, cr⟩, ⟨k2, cu⟩, gc, sg⟩ := h
  have hm : r - r / u * u = r % u := by rw [Int.emod_def, Int.mul_comm]
  have hq : 0 ≤ r / u := Int.ediv_nonneg (by omega) u0
  have hm0 : 0 ≤ r % u := Int.emod_nonneg _ (by omega)
  have hm1 : r % u < u := Int.emod_lt_of_pos _ hu
  have g : Int.gcd u (r - r / u * u) = Int.gcd 2147483647 a := by rw [← gc, Int.gcd_sub_mul_right_right, Int.gcd_comm]
  rw [hm] at g
  rw [hm]
  have sg' : (0 ≤ v ∧ s - r / u * v ≤ 0 ∧ r % u * v - u * (s - r / u * v) = 2147483647) ∨ (v ≤ 0 ∧ 0 ≤ s - r / u * v ∧ u * (s - r / u * v) - r % u * v = 2147483647) := by
    rw [← hm]
    generalize r / u = q at *
    rcases sg with ⟨h1, h2, h3⟩ | ⟨h1, h2, h3⟩
    · refine Or.inr ⟨h2, ?_, ?_⟩
      · have := Int.mul_nonneg hq (show 0 ≤ -v by omega)
        rw [Int.mul_neg] at this; omega
      · rw [← h3]; grind
    · refine Or.inl ⟨h2, ?_, ?_⟩
      · have := Int.mul_nonneg hq h2; omega
      · rw [← h3]; grind
  have vl' : -2147483647 ≤ s - r / u * v ∧ s - r / u * v ≤ 2147483647 := by
    generalize s - r / u * v = v' at *
    rcases sg' with ⟨h1, h2, h3⟩ | ⟨h1, h2, h3⟩
    · have a1 := Int.mul_nonneg hm0 h1
      have a2 := mul_ge_self u (-v') hu (by omega)
      rw [Int.mul_neg] at a2; omega
    · have a1 := Int.mul_nonneg hm0 (show 0 ≤ -v by omega)
      rw [Int.mul_neg] at a1
      have a2 := mul_ge_self u v' hu h2
      omega
  refine ⟨hu, hm0, up, by omega, vl, vl', ⟨k2, cu⟩, ⟨k1 - r / u * k2, by rw [← hm]; generalize r / u = q at *; rw [cr, cu]; grind⟩, g, sg'⟩

theorem Eu.bounds {a r s u v : Int} (h : Eu a r s u v) (hu : 0 < u) : 0 ≤ r / u ∧ r / u ≤ 2147483647 ∧ 0 ≤ r / u * u ∧ r / u * u ≤ 2147483647 ∧ -4294967294 ≤ r / u * v ∧ r / u * v ≤ 4294967294 := by
  have hn := h.next hu
  have hq : 0 ≤ r / u := Int.ediv_nonneg (by have := h.r0; omega) h.u0
  have hqu : r / u ≤ r := Int.ediv_le_self _ (by have := h.r0; omega)
  have h1 := Int.mul_nonneg hq h.u0
  have h2 := hn.u0
  have h3 := hn.vl
  have h4 := h.sl
  have h5 := h.rp
  omega

/-- Its end: what the loop hands back is the inverse. -/
theorem Eu.fin {a r s v : Int} (h : Eu a r s 0 v) (ha : 0 < a) (ha' : a < 2147483647) : (s % 2147483647) * a % 2147483647 = 1 := by
  have g := h.gc
  rw [gcd_one a ha ha', Int.gcd_zero] at g
  have hr : r = 1 := by have := h.r0; omega
  obtain ⟨k, hk⟩ := h.cr
  have : s * a = 1 + (-k) * 2147483647 := by omega
  rw [Int.mul_emod, Int.emod_emod_of_dvd _ (Int.dvd_refl _), ← Int.mul_emod, this, Int.add_mul_emod_self_right]
  rfl

/-- The inverse of an element that isn't 0. -/
noncomputable def invp (a : Int) : Int := by
  classical exact if h : ∃ r : Int, 0 ≤ r ∧ r < 2147483647 ∧ r * a % 2147483647 = 1 then h.choose else 0

theorem inv_unique (a r r' : Int) (h0 : 0 ≤ r) (h1 : r < 2147483647) (h : r * a % 2147483647 = 1) (h0' : 0 ≤ r') (h1' : r' < 2147483647) (h' : r' * a % 2147483647 = 1) : r = r' := by
  have e1 : r * a * r' % 2147483647 = r' % 2147483647 := by rw [Int.mul_emod, h]; simp
  have e2 : r' * a * r % 2147483647 = r % 2147483647 := by rw [Int.mul_emod, h']; simp
  have e3 : r * a * r' = r' * a * r := by grind
  rw [e3, e2] at e1
  rw [Int.emod_eq_of_lt h0 h1, Int.emod_eq_of_lt h0' h1'] at e1
  exact e1

theorem invp_eq (a r : Int) (h0 : 0 ≤ r) (h1 : r < 2147483647) (h : r * a % 2147483647 = 1) : invp a = r := by
  unfold invp
  have hex : ∃ r : Int, 0 ≤ r ∧ r < 2147483647 ∧ r * a % 2147483647 = 1 := ⟨r, h0, h1, h⟩
  rw [dif_pos hex]
  obtain ⟨g0, g1, g2⟩ := hex.choose_spec
  exact inv_unique a _ _ g0 g1 g2 h0 h1 h

theorem inv_exists (a : Int) (ha : 0 < a) (ha' : a < 2147483647) : ∀ (n : Nat) (r s u v : Int), Eu a r s u v → u.toNat ≤ n → ∃ q : Int, 0 ≤ q ∧ q < 2147483647 ∧ q * a % 2147483647 = 1 := by
  intro n
  induction n with
  | zero =>
    intro r s u v h hu
    have hu0 := h.u0
    obtain rfl : u = 0 := by omega
    exact ⟨s % 2147483647, by omega, by omega, h.fin ha ha'⟩
  | succ n ih =>
    intro r s u v h hu
    by_cases h0 : 0 < u
    · have hn := h.next h0
      have hm : r - r / u * u = r % u := by rw [Int.emod_def, Int.mul_comm]
      have hlt := Int.emod_lt_of_pos r h0
      have hge := hn.u0
      exact ih _ _ _ _ hn (by omega)
    · have hu0 := h.u0
      obtain rfl : u = 0 := by omega
      exact ⟨s % 2147483647, by omega, by omega, h.fin ha ha'⟩

theorem invp_spec (a : Int) (ha : 0 < a) (ha' : a < 2147483647) : 0 ≤ invp a ∧ invp a < 2147483647 ∧ invp a * a % 2147483647 = 1 := by
  obtain ⟨q, q0, q1, q2⟩ := inv_exists a ha ha' _ _ _ _ _ (Eu.start a ha ha') (Nat.le_refl _)
  rw [invp_eq a q q0 q1 q2]
  exact ⟨q0, q1, q2⟩

theorem tmod_fin (s : Int) (h : -2147483647 ≤ s) (h' : s ≤ 2147483647) : (s.tmod 2147483647 + 2147483647) % 2147483647 = s % 2147483647 ∧ -2147483647 < s.tmod 2147483647 ∧ s.tmod 2147483647 < 2147483647 := by
  by_cases hs : 0 ≤ s
  · rw [Int.tmod_eq_emod_of_nonneg hs]; omega
  · have e : s.tmod 2147483647 = -((-s) % 2147483647) := by
      rw [← Int.tmod_eq_emod_of_nonneg (show 0 ≤ -s by omega), Int.neg_tmod, Int.neg_neg]
    rw [e]; omega

set_option maxHeartbeats 400000 in
theorem inverse_any (a : Int) (w : World) (h0 : 0 < a) (h1 : a < 2147483647) :
    Calls Tryz.prog 79 #[.int .i64 a] w fun e w' => (e = .returned (.int .i64 (invp a)) ∧ 0 ≤ invp a ∧ invp a < 2147483647 ∧ invp a * a % 2147483647 = 1) ∧ w = w' := by
  go_enter Tryz.func79, Tryz.ntmps79
  go_wp2
  go_loop [3, 4, 5, 6] (fun tr ts tu tv => ∃ r s u v : Int, tr = .int .i64 r ∧ ts = .int .i64 s ∧ tu = .int .i64 u ∧ tv = .int .i64 v ∧ Eu a r s u v) (fun _ _ tu _ => (intOf tu).toNat)
  case atStart => exact ⟨_, _, _, _, rfl, rfl, rfl, rfl, Eu.start a h0 h1⟩
  case round =>
    obtain ⟨r, s, u, v, rfl, rfl, rfl, rfl, hE⟩ := hrel
    have HE := Lib.hid hE
    obtain ⟨r0, u0, rp, up, ⟨sl, sl'⟩, ⟨vl, vl'⟩, -, -, -, -⟩ := hE
    by_cases hu : 0 < u
    · obtain ⟨b1, b2, b3, b4, b5, b6⟩ := HE.out.bounds hu
      go_wp2
      go_round
      case rel => exact ⟨_, _, _, _, rfl, rfl, rfl, rfl, HE.out.next hu⟩
      case measure =>
        have h1 := (HE.out.next hu).u0
        have h2 : r - r / u * u < u := by
          have : r - r / u * u = r % u := by rw [Int.emod_def, Int.mul_comm]
          rw [this]; exact Int.emod_lt_of_pos _ hu
        simp [intOf]; omega
    · obtain rfl : u = 0 := by omega
      obtain ⟨t1, t2, t3⟩ := tmod_fin s sl sl'
      have T1 : Hid (s.tmod 2147483647 % 2147483647 = s % 2147483647) := Lib.hid (by omega); clear t1
      go_wp2
      go_ret
      have hb0 : 0 ≤ s % 2147483647 := by omega
      have hb1 : s % 2147483647 < 2147483647 := by omega
      have hf := HE.out.fin h0 h1
      have e := invp_eq a _ hb0 hb1 hf
      rw [e]
      exact ⟨⟨ret_int T1.out, hb0, hb1, hf⟩, rfl⟩
end

section
open Go.RowKit

/-- Horner's scheme modulo the prime. -/
def evp : List Int → Int → Int
  | [], _ => 0
  | a :: l, x => (evp l x * x + a) % 2147483647

theorem evp_range (l : List Int) (x : Int) : 0 ≤ evp l x ∧ evp l x < 2147483647 := by
  cases l with
  | nil => simp [evp]
  | cons a l => simp only [evp]; omega

theorem evp_drop (xs : List Int) (x : Int) (k : Nat) (y : Int) (hk : xs[k]? = some y) : evp (xs.drop k) x = (evp (xs.drop (k + 1)) x * x + y) % 2147483647 := by
  obtain ⟨h, rfl⟩ := List.getElem?_eq_some_iff.1 hk
  rw [List.drop_eq_getElem_cons h]; rfl

theorem elemB_iff (x : Int) : elemB x = true ↔ 0 ≤ x ∧ x < 2147483647 := by simp [elemB]

set_option maxHeartbeats 800000 in
theorem eval_any (A : Option Addr) (c : Nat) (xs : List Int) (x : Int) (w : World) (hv : Ints w A xs) (hl : xs.length ≤ 16) (hall : xs.all elemB = true) (hx : elemB x = true) :
    Calls Tryz.prog 50 #[.slice A xs.length c, .int .i64 x] w fun e w' => e = .returned (.tuple #[.int .i64 (evp xs x), .int .i64 0]) ∧ w = w' := by
  have ⟨hx0, hx1⟩ := (elemB_iff x).1 hx
  have HV := Lib.hid hv; clear hv
  have HALL := Lib.hid hall; clear hall
  have HX := Lib.hid hx; clear hx
  go_enter Tryz.func50, Tryz.ntmps50
  go_wp2_with fail
  refine (elements_any _ _ xs _ HV.out (by omega)).mono ?_
  rintro e w' ⟨rfl, rfl⟩
  rw [HALL.out]
  go_wp2_with fail
  refine (element_any _ _).mono ?_
  rintro e w' ⟨rfl, rfl⟩
  rw [HX.out]
  go_wp2
  go_loop [6, 23] (fun o i => ∃ k : Nat, k ≤ xs.length ∧ i = .int .i64 k ∧ o = .int .i64 (evp (xs.drop (xs.length - k)) x)) (fun _ i => xs.length - (intOf i).toNat)
  case atStart => exact ⟨0, Nat.zero_le _, rfl, by simp [evp]⟩
  case round =>
    obtain ⟨k, hk, rfl, rfl⟩ := hrel
    obtain ⟨r0, r1⟩ := evp_range (xs.drop (xs.length - k)) x
    by_cases hlt : k < xs.length
    · obtain ⟨y, hy⟩ : ∃ y, xs[xs.length - 1 - k]? = some y := get_some _ _ (by omega)
      obtain ⟨b, off, rfl, hcell⟩ := HV.out.at_ hy
      have he := evp_drop xs x _ y hy
      rw [show xs.length - 1 - k + 1 = xs.length - k by omega] at he
      have hy2 := (elemB_iff y).1 (List.all_eq_true.1 HALL.out y (List.mem_of_getElem? hy))
      obtain ⟨y0, y1⟩ := hy2
      rw [show xs.length - 1 - k = xs.length - (k + 1) by omega] at he
      have HE := Lib.hid he; clear he hy
      generalize evp (xs.drop (xs.length - k)) x = acc at *
      have m0 : 0 ≤ acc * x := Int.mul_nonneg r0 hx0
      have m1 : acc * x ≤ 2147483647 * 2147483647 := Int.mul_le_mul (by omega) (by omega) hx0 (by omega)
      go_wp2
      go_round
      case rel => exact ⟨k + 1, by omega, by go_num, by rw [HE.out]⟩
      case measure => simp [intOf]; omega
    · have hk' : k = xs.length := by omega
      go_wp2
      go_ret2
      exact ⟨rfl, rfl⟩
end

section
open Go.RowKit

/-- One step of Neville's scheme. -/
noncomputable def nst (x xi xk vi vj : Int) : Int := mns (mns x xk * vi % 2147483647) (mns x xi * vj % 2147483647) * invp (mns xi xk) % 2147483647

theorem nst_range (x xi xk vi vj : Int) : 0 ≤ nst x xi xk vi vj ∧ nst x xi xk vi vj < 2147483647 := by unfold nst; omega

theorem mns_pos (a b : Int) (h0 : 0 ≤ a) (h1 : a < 2147483647) (g0 : 0 ≤ b) (g1 : b < 2147483647) (h : a ≠ b) : 0 < mns a b := by unfold mns; omega

set_option maxHeartbeats 1600000 in
theorem join_any (i k n b off cap bp bx ba : Nat) (x xi xk vi vj : Int) (w : World)
    (hi : i + 1 < 16) (hin : i < n) (hkn : k < n) (_hn : n ≤ 16) (_hcap : n ≤ cap)
    (hbp : w.cell? ⟨bp, 0, none⟩ = some (.slice (some ⟨b, off, none⟩) n cap)) (hbx : w.cell? ⟨bx, 0, none⟩ = some (.int .i64 x))
    (hxi : w.cell? ⟨b, off + i * 2, none⟩ = some (.int .i64 xi)) (hxk : w.cell? ⟨b, off + k * 2, none⟩ = some (.int .i64 xk))
    (hvi : w.cell? ⟨ba, i, none⟩ = some (.int .i64 vi)) (hvj : w.cell? ⟨ba, i + 1, none⟩ = some (.int .i64 vj)) (hfr : w.frozen? ⟨ba, i, none⟩ = false)
    (x0 : 0 ≤ x) (x1 : x < 2147483647) (xi0 : 0 ≤ xi) (xi1 : xi < 2147483647) (xk0 : 0 ≤ xk) (xk1 : xk < 2147483647)
    (vi0 : 0 ≤ vi) (vi1 : vi < 2147483647) (vj0 : 0 ≤ vj) (vj1 : vj < 2147483647) (hne : xi ≠ xk) :
    Calls Tryz.prog 77 #[.int .i64 i, .int .i64 k, .pointer (some ⟨bp, 0, none⟩), .pointer (some ⟨bx, 0, none⟩), .pointer (some ⟨ba, 0, none⟩)] w fun e w' =>
      e = .returned (.tuple #[]) ∧ ∃ m, w' = (w.drewN m).setCell ⟨ba, i, none⟩ (.int .i64 (nst x xi xk vi vj)) := by
  have hp := mns_pos xi xk xi0 xi1 xk0 xk1 hne
  clear hne
  obtain ⟨a0, a1⟩ := mns_range x xk
  obtain ⟨b0, b1⟩ := mns_range x xi
  obtain ⟨c0, c1⟩ := mns_range xi xk
  obtain ⟨m0, m1⟩ := mul_range (mns x xk) vi a0 (by omega) vi0 (by omega)
  obtain ⟨n0, n1⟩ := mul_range (mns x xi) vj b0 (by omega) vj0 (by omega)
  obtain ⟨l0, l1⟩ := mns_range (mns x xk * vi % 2147483647) (mns x xi * vj % 2147483647)
  go_enter Tryz.func77, Tryz.ntmps77
  go_wp2
  go_quiet (fail)
  go_wp2
  go_quiet ((go_at_call 78; exact quiet_same2 (minus_any _ _ _ (by omega) (by omega) (by omega) (by omega))))
  go_wp2_with fail
  refine (minus_any _ _ _ (by omega) (by omega) (by omega) (by omega)).mono ?_
  rintro e w' ⟨rfl, rfl⟩
  go_wp2_with fail
  refine (minus_any _ _ _ (by omega) (by omega) (by omega) (by omega)).mono ?_
  rintro e w' ⟨rfl, rfl⟩
  go_wp2_with fail
  refine (inverse_any _ _ hp c1).mono ?_
  rintro e w' ⟨⟨rfl, i0, i1, -⟩, rfl⟩
  obtain ⟨k0, k1⟩ := mul_range _ _ l0 (by omega) i0 (by omega)
  go_wp2
  go_end0
  exact ⟨rfl, _, rfl⟩
end

section
open Go.RowKit Go.Maps

/-- A slice of pairs of ints. -/
def Pts (w : World) (b off : Nat) (ps : List (Int × Int)) : Prop :=
  ∀ j p, ps[j]? = some p → w.cell? ⟨b, off + j * 2, none⟩ = some (.int .i64 p.1) ∧ w.cell? ⟨b, off + j * 2 + 1, none⟩ = some (.int .i64 p.2)

theorem intKeyed : Keyed Tryz.prog 3 := int_keyed Tryz.underlying3

/-- The map of the first elements seen so far. -/
def Seen (w : World) (B n : Nat) (xs : List Int) : Prop :=
  ∃ D : DataW Unit, w.ownsMap Tryz.prog 3 (plainElem Tryz.prog 4) B n D ∧ IsMap D ∧ ∀ y : Int, D.atKey (.int .i64 y) (.lit (.bool false)) = .lit (.bool (decide (y ∈ xs)))

theorem Seen.made (w : World) : Seen (w.alloc (.map #[] 0)) w.heap.size 0 [] :=
  ⟨_, World.ownsMap_made _ _ _ _, ⟨[], rfl⟩, fun y => by simp [DataW.atKey]⟩

theorem Seen.grown {w w' : World} {B n : Nat} {xs : List Int} (h : Seen w B n xs) {row : Option Nat} (hg : w.grownBy w' row) (hne : some B ≠ row) : Seen w' B n xs := by
  obtain ⟨D, h1, h2, h3⟩ := h
  exact ⟨D, h1.kept hg hne, h2, h3⟩

theorem zeroBool (w : World) : (zeroValue 4).run Tryz.prog w = .ok (.bool false) w := by kernel_rfl

theorem wf_elem {x : Int} (h : elemB x = true) : (Lit.int .i64 x).wf = true := by
  have ⟨h0, h1⟩ := (elemB_iff x).1 h
  exact WalkArith.wf_i64 (by omega)

set_option maxRecDepth 100000 in
theorem Seen.look {w : World} {B n : Nat} {xs : List Int} (h : Seen w B n xs) (x : Int) (hx : elemB x = true) (hn : x ∉ xs) :
    (Instr.lookup 85 (.map (some B)) (.int .i64 x) false).run Tryz.prog w = .ok (.bool false) w := by
  obtain ⟨D, h1, h2, h3⟩ := h
  obtain ⟨v, ps, hr, hv⟩ := h1.lookup intKeyed Tryz.underlying85 (zeroBool w) (plainElem_bool Tryz.underlying4 false) (keyOf_int_mk Tryz.underlying3 (wf_elem hx))
  rw [h3 x] at hv
  have hf : decide (x ∈ xs) = false := by simpa using hn
  rw [hf] at hv
  have : v = .bool false := by
    unfold plainElem at hv
    rw [Tryz.underlying4] at hv
    cases v <;> simp at hv
    rw [hv.1]
  rw [hr, this]

set_option maxRecDepth 100000 in
theorem Seen.put {w : World} {B n : Nat} {xs : List Int} (h : Seen w B n xs) (x : Int) (hx : elemB x = true) (hn : n < 1000) :
    ∃ w', (Instr.mapUpdate 85 (.map (some B)) (.int .i64 x) (.bool true)).run Tryz.prog w = .ok () w' ∧ Seen w' B (n + 1) (xs ++ [x]) ∧ w.grownBy w' (some B) := by
  obtain ⟨D, h1, h2, h3⟩ := h
  obtain ⟨w', hr, ho, hg⟩ := h1.update intKeyed Tryz.underlying85 (by unfold maxLen; omega) (keyOf_int_mk Tryz.underlying3 (wf_elem hx)) (plainElem_bool Tryz.underlying4 true)
  refine ⟨w', hr, ⟨_, ho, ?_, ?_⟩, hg⟩
  · obtain ⟨es, rfl⟩ := h2
    exact ⟨_, rfl⟩
  · intro y
    by_cases hy : y = x
    · subst hy
      rw [atKey_put_same h2 (by trivial)]; simp
    · rw [atKey_put_other (by simpa using hy), h3 y]
      simp [hy]

/-- A block of ints that the call made: its j-th cell is f j. -/
def Arr (w : World) (B T n : Nat) (f : Nat → Int) : Prop :=
  ∃ cs : Array Value, w.heap[B]? = some (.cells cs T (0, 0)) ∧ cs.size = n ∧ ∀ j, j < n → cs[j]? = some (.int .i64 (f j))

theorem Arr.lt {w : World} {B T n : Nat} {f : Nat → Int} (h : Arr w B T n f) : B < w.heap.size := by
  obtain ⟨cs, h1, _⟩ := h
  exact (Array.getElem?_eq_some_iff.1 h1).1
theorem Arr.cell {w : World} {B T n : Nat} {f : Nat → Int} (h : Arr w B T n f) (j : Nat) (hj : j < n) : w.cell? ⟨B, j, none⟩ = some (.int .i64 (f j)) := by
  obtain ⟨cs, h1, h2, h3⟩ := h
  rw [cell_of_row w B j cs T (0, 0) h1]; exact h3 j hj
theorem Arr.frozen {w : World} {B T n : Nat} {f : Nat → Int} (h : Arr w B T n f) (j : Nat) : w.frozen? ⟨B, j, none⟩ = false := by
  obtain ⟨cs, h1, h2, h3⟩ := h
  exact frozen_of_row w B j cs T h1
theorem Arr.grown {w w' : World} {B T n : Nat} {f : Nat → Int} (h : Arr w B T n f) {row : Option Nat} (hg : w.grownBy w' row) (hne : some B ≠ row) : Arr w' B T n f := by
  have hlt := h.lt
  obtain ⟨cs, h1, h2⟩ := h
  exact ⟨cs, (hg.block B hlt hne).trans h1, h2⟩
theorem Arr.alloc {w : World} {B T n : Nat} {f : Nat → Int} (h : Arr w B T n f) (o : Obj) : Arr (w.alloc o) B T n f := h.grown (World.grownBy_alloc w o none) (by simp)
theorem Arr.drewN {w : World} {B T n : Nat} {f : Nat → Int} (h : Arr w B T n f) (m : Nat) : Arr (w.drewN m) B T n f := h
theorem Arr.set {w : World} {B T n : Nat} {f : Nat → Int} (h : Arr w B T n f) (i : Nat) (v : Int) : Arr (w.setCell ⟨B, i, none⟩ (.int .i64 v)) B T n (fun j => if j = i then v else f j) := by
  obtain ⟨cs, h1, h2, h3⟩ := h
  refine ⟨cs.setIfInBounds i (.int .i64 v), heap_setCell_same w B i cs T _ h1, by simpa using h2, fun j hj => ?_⟩
  by_cases hji : j = i
  · subst hji
    simp [h2, hj]
  · rw [Array.getElem?_setIfInBounds_ne (by omega), h3 j hj]
    simp [hji]

theorem Arr.zeros16 (w : World) (T : Nat) : Arr (w.alloc (.cells #[.int .i64 0, .int .i64 0, .int .i64 0, .int .i64 0, .int .i64 0, .int .i64 0, .int .i64 0, .int .i64 0, .int .i64 0, .int .i64 0, .int .i64 0, .int .i64 0, .int .i64 0, .int .i64 0, .int .i64 0, .int .i64 0] T)) w.heap.size T 16 (fun _ => 0) := by
  refine ⟨_, heap_alloc_new w _, rfl, fun j hj => ?_⟩
  match j, hj with
  | 0, _ | 1, _ | 2, _ | 3, _ | 4, _ | 5, _ | 6, _ | 7, _ | 8, _ | 9, _ | 10, _ | 11, _ | 12, _ | 13, _ | 14, _ | 15, _ => rfl
  | n + 16, h => omega

/-- Neville's scheme: the value at x of the polynomial through the points j .. j + k. -/
noncomputable def nv (x : Int) (ps : List (Int × Int)) : Nat → Nat → Int
  | 0, j => (ps[j]?.getD (0, 0)).2
  | k + 1, j => nst x (ps[j]?.getD (0, 0)).1 (ps[j + (k + 1)]?.getD (0, 0)).1 (nv x ps k j) (nv x ps k (j + 1))

theorem nv_range (x : Int) (ps : List (Int × Int)) (hall : ∀ p, p ∈ ps → elemB p.1 = true ∧ elemB p.2 = true) (k j : Nat) : 0 ≤ nv x ps k j ∧ nv x ps k j < 2147483647 := by
  cases k with
  | zero =>
    simp only [nv]
    cases h : ps[j]? with
    | none => simp
    | some p => have := (elemB_iff p.2).1 (hall p (List.mem_of_getElem? h)).2; simpa using this
  | succ k => exact nst_range _ _ _ _ _
end

section
open Go.RowKit Go.Maps

set_option maxHeartbeats 4000000 in
theorem interp_any (b off cap : Nat) (ps : List (Int × Int)) (x : Int) (w : World) (hb : b < w.heap.size) (hc : Pts w b off ps) (h1 : 1 ≤ ps.length) (h16 : ps.length ≤ 16)
    (hcap : ps.length ≤ cap) (hx : elemB x = true) (hall : ∀ p, p ∈ ps → elemB p.1 = true ∧ elemB p.2 = true) (hnd : (ps.map (·.1)).Nodup) :
    Calls Tryz.prog 55 #[.slice (some ⟨b, off, none⟩) ps.length cap, .int .i64 x] w fun e w' =>
      e = .returned (.tuple #[.int .i64 (nv x ps (ps.length - 1) 0), .int .i64 0]) ∧ Below w.heap.size w w' := by
  have HX := Lib.hid hx; clear hx
  have HALL := Lib.hid hall; clear hall
  have HND := Lib.hid hnd; clear hnd
  have HC := Lib.hid hc; clear hc
  have hmm := @run_makeMap Tryz.prog
  have hmf : ∀ (fn : Fn) (first cap : Array Value) (w : World), (Instr.makeFunc fn first cap).run Tryz.prog w = .ok (.func fn first cap) w := fun _ _ _ _ => rfl
  go_enter Tryz.func55, Tryz.ntmps55
  go_wp2_with fail
  refine (element_any _ _).mono ?_
  rintro e w' ⟨rfl, rfl⟩
  rw [HX.out]
  go_wp2_with fail
  obtain ⟨w0, hw0⟩ : ∃ w0, w0 = (w.alloc (Obj.cells #[Value.slice (some { block := b, off := off }) ps.length cap] 58)).alloc (Obj.cells #[Value.int IntKind.i64 x] 3) := ⟨_, rfl⟩
  have hs0 : w0.heap.size = w.heap.size + 2 := by rw [hw0]; simp
  have HBW : Hid (Below w.heap.size w w0) := Lib.hid (by rw [hw0]; exact ((Below.refl _ _).alloc (Nat.le_refl _) _).alloc (by simp) _)
  have HQ1 : Hid (w0.cell? ⟨w.heap.size, 0, none⟩ = some (.slice (some ⟨b, off, none⟩) ps.length cap)) := Lib.hid (by rw [hw0]; simp [World.cell?_alloc_past, World.cell?_alloc_at])
  have HQ2 : Hid (w0.cell? ⟨w.heap.size + 1, 0, none⟩ = some (.int .i64 x)) := Lib.hid (by rw [hw0]; simp [World.cell?_alloc_at])
  have HW0 := Lib.hid hw0; clear hw0
  have HS0 := Lib.hid hs0; clear hs0
  go_loopw [7, 32] (fun u7 u32 wr => ∃ k : Nat, k ≤ ps.length ∧ u32 = .int .i64 k ∧ u7 = .bool false ∧ Below (w.heap.size + 2) w0 wr ∧ Seen wr (w.heap.size + 2) k ((ps.map (·.1)).take k)) (fun _ u32 _ => ps.length - (intOf u32).toNat)
  case atStart => exact ⟨0, Nat.zero_le _, rfl, rfl, by rw [HW0.out]; exact (Below.refl _ _).alloc (by simp) _, by have h := Seen.made w0; rw [HS0.out] at h; rw [← HW0.out]; simpa using h⟩
  case round =>
    obtain ⟨k, hk, rfl, rfl, hB, hS⟩ := hrel
    have HB := Lib.hid hB; clear hB
    have HS := Lib.hid hS; clear hS
    have hsz : w.heap.size + 2 < wr.heap.size := by obtain ⟨D, hD, _⟩ := HS.out; exact hD.lt
    by_cases hlt : k < ps.length
    · obtain ⟨p, hp⟩ : ∃ p, ps[k]? = some p := ⟨_, List.getElem?_eq_getElem hlt⟩
      obtain ⟨hc1, hc2⟩ := HC.out k p hp
      have hc1' := below_cell HB.out (by omega) (below_cell HBW.out hb hc1)
      have hc2' := below_cell HB.out (by omega) (below_cell HBW.out hb hc2)
      clear hc1 hc2
      obtain ⟨he1, he2⟩ := HALL.out p (List.mem_of_getElem? hp)
      have hall : [p.1, p.2].all elemB = true := by simp [he1, he2]
      have hpx : (ps.map (·.1))[k]? = some p.1 := by simp [hp]
      have hnm := nodup_not_mem HND.out k _ hpx
      have hS1 := HS.out.grown (World.grownBy_alloc wr (.cells #[.int .i64 p.1, .int .i64 p.2] 60) none) (by simp)
      have hlook := hS1.look p.1 he1 hnm
      obtain ⟨w2, hput, hS2, hg2⟩ := hS1.put p.1 he1 (by omega)
      have hB2 : Below (w.heap.size + 2) w0 w2 := ((HB.out).alloc (by omega) _).grown hg2 (by simp; omega) (by simp)
      rw [← take_snoc _ k _ hpx] at hS2
      have HS2 := Lib.hid hS2; clear hS2
      have HB2 := Lib.hid hB2; clear hB2
      have HG2 := Lib.hid hg2; clear hg2
      have HAL := Lib.hid hall; clear hall
      clear hS1 hnm he1 he2 hpx
      have HP := Lib.hid hp; clear hp
      go_wp2_with fail
      refine (elements_any _ _ [p.1, p.2] _ (Ints_two wr _ p.1 p.2) (by simp)).mono ?_
      rintro e w' ⟨rfl, rfl⟩
      rw [HAL.out]
      go_wp2
      go_roundw
      case rel => exact ⟨k + 1, by omega, by go_num, rfl, HB2.out, HS2.out⟩
      case measure => simp [intOf]; omega
    · have hbox := below_cell HB.out (by omega) HQ1.out
      have hsz0 : w.heap.size < wr.heap.size := by omega
      have hsz1 : w.heap.size + 1 < wr.heap.size := by omega
      go_wp2_with fail
      obtain ⟨w1, rfl⟩ : ∃ w1 : World, w1 = wr := ⟨_, rfl⟩
      go_loopw [11, 53] (fun u11 u53 wr => ∃ (i : Nat) (f : Nat → Int), i ≤ ps.length ∧ u53 = .int .i64 i ∧ Below (w.heap.size + 2) w0 wr ∧ Arr wr w1.heap.size 86 16 f ∧ (∀ j, j < i → f j = nv x ps 0 j) ∧ (∀ j, 0 ≤ f j ∧ f j < 2147483647)) (fun _ u53 _ => ps.length - (intOf u53).toNat)
      case atStart => exact ⟨0, fun _ => 0, Nat.zero_le _, rfl, (HB.out).alloc (by omega) _, Arr.zeros16 _ _, by simp, by simp⟩
      case round =>
        obtain ⟨i, f, hi, rfl, hB1, hA, hf, hr⟩ := hrel
        have HB1 := Lib.hid hB1; clear hB1
        have HA := Lib.hid hA; clear hA
        have HF := Lib.hid hf; clear hf
        have HR := Lib.hid hr; clear hr
        have hA1 := HA.out.lt
        by_cases hli : i < ps.length
        · obtain ⟨p, hp⟩ : ∃ p, ps[i]? = some p := ⟨_, List.getElem?_eq_getElem hli⟩
          obtain ⟨hc1, hc2⟩ := HC.out i p hp
          have hc1' := below_cell HB1.out (by omega) (below_cell HBW.out hb hc1)
          have hc2' := below_cell HB1.out (by omega) (below_cell HBW.out hb hc2)
          clear hc1 hc2
          have hac := HA.out.cell i (by omega)
          have haf := HA.out.frozen i
          have hi16 : (i : Int) < 16 := by omega
          have HP := Lib.hid hp; clear hp
          go_wp2
          go_roundw
          case rel =>
            refine ⟨i + 1, _, by omega, by go_num, ((HB1.out).setCell (p := ⟨w1.heap.size, i, none⟩) (by simp; omega) _).alloc (by simp; omega) _, (HA.out.set i p.2).alloc _, fun j hj => ?_, fun j => ?_⟩
            · by_cases hji : j = i
              · subst hji; simp [nv, HP.out]
              · simp only [hji, if_false]; exact HF.out j (by omega)
            · have ⟨he1, he2⟩ := HALL.out p (List.mem_of_getElem? HP.out)
              have := (elemB_iff p.2).1 he2
              by_cases hji : j = i
              · simp only [hji, if_true]; exact this
              · simp only [hji, if_false]; exact HR.out j
          case measure => simp [intOf]; omega
        · have hbox := below_cell HB1.out (by omega) HQ1.out
          have hboxx := below_cell HB1.out (by omega) HQ2.out
          have hnv := fun k j => nv_range x ps HALL.out k j
          have HNV := Lib.hid hnv; clear hnv
          have hfi : ∀ j, j < ps.length → f j = nv x ps 0 j := fun j hj => HF.out j (by omega)
          have HFI := Lib.hid hfi; clear hfi
          go_wp2_with fail
          obtain ⟨w2, rfl⟩ : ∃ w2 : World, w2 = wr := ⟨_, rfl⟩
          go_loopw [14] (fun u14 wr => ∃ (d : Nat) (f : Nat → Int), 1 ≤ d ∧ d ≤ ps.length ∧ u14 = .int .i64 d ∧ Below (w.heap.size + 2) w0 wr ∧ Arr wr w1.heap.size 86 16 f ∧ (∀ j, j + d ≤ ps.length → f j = nv x ps (d - 1) j) ∧ (∀ j, 0 ≤ f j ∧ f j < 2147483647)) (fun u14 _ => ps.length - (intOf u14).toNat)
          case atStart => exact ⟨1, f, Nat.le_refl _, h1, rfl, HB1.out, HA.out, fun j hj => HFI.out j (by omega), HR.out⟩
          case round =>
            obtain ⟨d, g, hd1, hd2, rfl, hB2, hA2, hg, hr2⟩ := hrel
            have HB2 := Lib.hid hB2; clear hB2
            have HA2 := Lib.hid hA2; clear hA2
            have HG := Lib.hid hg; clear hg
            have HR2 := Lib.hid hr2; clear hr2
            clear hbox hboxx
            have hbox := below_cell HB2.out (by omega) HQ1.out
            have hboxx := below_cell HB2.out (by omega) HQ2.out
            have hA3 := HA2.out.lt
            by_cases hld : d < ps.length
            · go_wp2_with fail
              obtain ⟨w3, rfl⟩ : ∃ w3 : World, w3 = wr := ⟨_, rfl⟩
              go_loopw [15, 74] (fun u15 u74 wr => ∃ (i : Nat) (f : Nat → Int), i + d ≤ ps.length ∧ u74 = .int .i64 i ∧ Below (w.heap.size + 2) w0 wr ∧ Arr wr w1.heap.size 86 16 f ∧ (∀ j, j < i → f j = nv x ps d j) ∧ (∀ j, i ≤ j → j + d ≤ ps.length → f j = nv x ps (d - 1) j) ∧ (∀ j, 0 ≤ f j ∧ f j < 2147483647)) (fun _ u74 _ => ps.length - (intOf u74).toNat)
              case atStart => exact ⟨0, g, by omega, rfl, HB2.out, HA2.out, by simp, fun j _ hj => HG.out j hj, HR2.out⟩
              case round =>
                obtain ⟨i, f, hi, rfl, hB3, hA4, hf1, hf2, hr3⟩ := hrel
                have HB3 := Lib.hid hB3; clear hB3
                have HA4 := Lib.hid hA4; clear hA4
                have HF1 := Lib.hid hf1; clear hf1
                have HF2 := Lib.hid hf2; clear hf2
                have HR3 := Lib.hid hr3; clear hr3
                by_cases hle : i + d < ps.length
                · obtain ⟨p, hp⟩ : ∃ p, ps[i]? = some p := ⟨_, List.getElem?_eq_getElem (by omega)⟩
                  obtain ⟨q, hq⟩ : ∃ q, ps[i + d]? = some q := ⟨_, List.getElem?_eq_getElem (by omega)⟩
                  have ⟨hc1, _⟩ := HC.out i p hp
                  have ⟨hc2, _⟩ := HC.out (i + d) q hq
                  have hc1' := below_cell HB3.out (by omega) (below_cell HBW.out hb hc1)
                  have hc2' := below_cell HB3.out (by omega) (below_cell HBW.out hb hc2)
                  have hb1 := below_cell HB3.out (by omega) HQ1.out
                  have hb2 := below_cell HB3.out (by omega) HQ2.out
                  have ⟨p0, p1⟩ := (elemB_iff p.1).1 (HALL.out p (List.mem_of_getElem? hp)).1
                  have ⟨q0, q1⟩ := (elemB_iff q.1).1 (HALL.out q (List.mem_of_getElem? hq)).1
                  have ⟨x0, x1⟩ := (elemB_iff x).1 HX.out
                  have hne : p.1 ≠ q.1 := nodup_ne HND.out i (i + d) p.1 q.1 (by simp [hp]) (by simp [hq]) (by omega)
                  have hj := join_any i (i + d) ps.length b off cap w.heap.size (w.heap.size + 1) w1.heap.size x p.1 q.1 (f i) (f (i + 1)) wr (by omega) (by omega) hle h16 hcap hb1 hb2 hc1' hc2'
                    (HA4.out.cell i (by omega)) (HA4.out.cell (i + 1) (by omega)) (HA4.out.frozen i) x0 x1 p0 p1 q0 q1 (HR3.out i).1 (HR3.out i).2 (HR3.out (i + 1)).1 (HR3.out (i + 1)).2 hne
                  have HJ := Lib.hid hj; clear hj
                  have he : nst x p.1 q.1 (f i) (f (i + 1)) = nv x ps d i := by
                    obtain ⟨d', rfl⟩ : ∃ d', d = d' + 1 := ⟨d - 1, by omega⟩
                    rw [nv, HF2.out i (Nat.le_refl _) (by omega), HF2.out (i + 1) (by omega) (by omega), hp, hq]
                    rfl
                  have HE := Lib.hid he
                  have HP := Lib.hid hp
                  have HQ := Lib.hid hq
                  clear hp hq hc1 hc2 hc1' hc2' hb1 hb2 hne he
                  go_wp2_with fail
                  refine HJ.out.mono ?_
                  rintro e w' ⟨rfl, m, rfl⟩
                  go_wp2
                  go_roundw
                  case rel =>
                    refine ⟨i + 1, _, by omega, by go_num, (below_drewN HB3.out m).setCell (p := ⟨w1.heap.size, i, none⟩) (by simp; omega) _, (HA4.out.drewN m).set i _, fun j hj => ?_, fun j hj hjd => ?_, fun j => ?_⟩
                    · by_cases hji : j = i
                      · subst hji; simp [HE.out]
                      · simp only [hji, if_false]; exact HF1.out j (by omega)
                    · have hji : j ≠ i := by omega
                      simp only [hji, if_false]; exact HF2.out j (by omega) hjd
                    · by_cases hji : j = i
                      · simp only [hji, if_true]; exact nst_range _ _ _ _ _
                      · simp only [hji, if_false]; exact HR3.out j
                  case measure => simp [intOf]; omega
                · have hei : i + d = ps.length := by omega
                  have HEI := Lib.hid hei; clear hei
                  go_wp2
                  go_roundw
                  case rel => exact ⟨d + 1, f, by omega, by omega, by go_num, HB3.out, HA4.out, fun j hj => HF1.out j (by have := HEI.out; omega), HR3.out⟩
                  case measure => simp [intOf]; omega
            · have hac := HA2.out.cell 0 (by omega)
              have he : g 0 = nv x ps (ps.length - 1) 0 := by
                have e : d = ps.length := by omega
                have := HG.out 0 (by omega)
                rw [e] at this; exact this
              have HE := Lib.hid he; clear he
              go_wp2
              go_ret2
              rw [← HE.out]
              exact ⟨rfl, HBW.out.trans (HB2.out.mono (by omega))⟩

theorem interp_prs (A : Option Addr) (cap : Nat) (ps : List (Int × Int)) (x : Int) (w : World) (hc : Prs w A ps) (h1 : 1 ≤ ps.length) (h16 : ps.length ≤ 16)
    (hcap : ps.length ≤ cap) (hx : elemB x = true) (hall : ∀ p, p ∈ ps → elemB p.1 = true ∧ elemB p.2 = true) (hnd : (ps.map (·.1)).Nodup) :
    Calls Tryz.prog 55 #[.slice A ps.length cap, .int .i64 x] w fun e w' =>
      e = .returned (.tuple #[.int .i64 (nv x ps (ps.length - 1) 0), .int .i64 0]) ∧ Below w.heap.size w w' := by
  obtain ⟨b, off, rfl, hcc⟩ := hc.2 (by omega)
  have hP : Pts w b off ps := fun j p hp => by
    obtain ⟨h1, h2⟩ := flat2_at ps j p hp
    exact ⟨hcc _ _ h1, by rw [Nat.add_assoc]; exact hcc _ _ h2⟩
  obtain ⟨p, hp⟩ := get_some ps 0 (by omega)
  exact interp_any b off cap ps x w (lt_of_cell (hP 0 p hp).1) hP h1 h16 hcap hx hall hnd
end

end Go.Proofs.YtbefcipeojahfaaGreatDoor
