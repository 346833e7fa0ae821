/- A block of ints that the call made by make, filled place by place. Several texts in one: Field, Inv, Eval, Join1, Arr, Interp. Contracts of package shares: element, valid, the two methods at. The contract of shares.Split on valid arguments. The reference of the digest: mix, Sum, Chain. The reference of the digest: digits, Decimal, Same. The reference of the digest: Joined, List. blinding: the offsets, moved, Blind, Unblind. The contract of shares.Join, at every list. -/
import Derived.Test.YtdlgejofggbifaaGreatDoorChTopBlindedA
import Derived.Maps.OwnOps
import Derived.Maps.Views
import Derived.Lib.BufferRead
import Derived.Deep.RegionHeld3
import Derived.Laws.EntriesVeiled
namespace Go.Proofs.YtdlgejofggbifaaGreatDoor

section
open Go.RowKit

def IArr (w : World) (B T : Nat) (l : List Int) : Prop := w.heap[B]? = some (.cells (l.map (Value.int .i64)).toArray T (0, 0))

theorem IArr.lt {w : World} {B T : Nat} {l : List Int} (h : IArr w B T l) : B < w.heap.size := (Array.getElem?_eq_some_iff.1 h).1
theorem IArr.cell {w : World} {B T : Nat} {l : List Int} (h : IArr w B T l) (j : Nat) (x : Int) (hx : l[j]? = some x) : w.cell? ⟨B, j, none⟩ = some (.int .i64 x) := by
  rw [cell_of_row w B j _ T (0, 0) h]; simp [hx]
theorem IArr.frozen {w : World} {B T : Nat} {l : List Int} (h : IArr w B T l) (j : Nat) : w.frozen? ⟨B, j, none⟩ = false := frozen_of_row w B j _ T h
theorem IArr.kept {w w' : World} {B T : Nat} {l : List Int} (h : IArr w B T l) (hb : w'.heap[B]? = w.heap[B]?) : IArr w' B T l := hb.trans h
theorem IArr.below {w w' : World} {B T : Nat} {l : List Int} (h : IArr w B T l) (hb : Below w.heap.size w w') : IArr w' B T l := h.kept (hb.block B h.lt)
theorem IArr.set {w : World} {B T : Nat} {l : List Int} (h : IArr w B T l) (i : Nat) (v : Int) : IArr (w.setCell ⟨B, i, none⟩ (.int .i64 v)) B T (l.set i v) := by
  have := heap_setCell_same w B i _ T (.int .i64 v) h
  unfold IArr
  rw [this]
  congr 2
  rw [List.map_set]
  simp
theorem IArr.own {w : World} {B T base : Nat} {l : List Int} (h : IArr w B T l) (hb : base ≤ B) (hn : l.length ≤ maxLen) :
    w.ownsRow base T 1 (.slice (some ⟨B, 0, none⟩) l.length l.length) l.length (l.map (Value.int .i64)) :=
  ⟨by simp, .inr ⟨B, l.length, _, rfl, hb, h, Nat.le_refl _, hn, by simp, by simp only [Nat.mul_one]; exact List.take_of_length_le (by simp)⟩⟩
theorem IArr.of_made {w : World} {base T n g : Nat} (h : w.ownsRow base T 1 (.slice (some ⟨g, 0, none⟩) n n) n (madeCells #[.int .i64 0] n).toList) : IArr w g T (List.replicate n 0) := by
  obtain ⟨h1, h2⟩ := h
  rcases h2 with ⟨h2, _⟩ | ⟨g', cap, cur, hv, _, hg, hn, _, hs, ht⟩
  · simp at h2
  · simp only [Value.slice.injEq, Option.some.injEq, Addr.mk.injEq, and_true, true_and] at hv
    obtain ⟨rfl, rfl⟩ := hv
    rw [List.take_of_length_le (by simp [hs])] at ht
    have e : cur = madeCells #[.int .i64 0] n := Array.toList_inj.1 ht
    unfold IArr
    rw [hg, e]
    congr 2
    apply Array.ext_getElem?
    intro j
    by_cases hj : j < n
    · simp [madeCells, hj, List.getElem?_replicate, Nat.mod_one]
    · simp [madeCells, hj, List.getElem?_replicate]
theorem set_take_succ {l r : List Int} {i : Nat} {v : Int} (h : l.take i = r.take i) (hi : i < l.length) (hv : r[i]? = some v) : (l.set i v).take (i + 1) = r.take (i + 1) := by
  rw [take_snoc r i v hv, take_snoc (l.set i v) i v (by simp [hi]), ← h]
  congr 1
  rw [List.take_set_of_le (Nat.le_refl _)]
end

section
section
open Go.RowKit

def elemB (a : Int) : Bool := decide (0 ≤ a) && decide (a < 2147483647)

theorem element_any (a : Int) (w : World) :
    Calls Tryz.prog 69 #[.int .i64 a] w fun e w' => e = .returned (.bool (elemB a)) ∧ w = w' := by
  by_cases h0 : 0 ≤ a
  · by_cases h1 : a < 2147483647
    · go_enter Tryz.func69, Tryz.ntmps69
      go_wp2
      go_ret
      exact ⟨by simp [elemB, h0, h1], rfl⟩
    · go_enter Tryz.func69, Tryz.ntmps69
      go_wp2
      go_ret
      exact ⟨by simp [elemB, h0, h1], rfl⟩
  · go_enter Tryz.func69, Tryz.ntmps69
    go_wp2
    go_ret
    exact ⟨by simp [elemB]; omega, rfl⟩

set_option maxHeartbeats 400000 in
theorem elements_any (A : Option Addr) (c : Nat) (xs : List Int) (w : World) (hv : Ints w A xs) (hmax : xs.length ≤ 9223372036854775807) :
    Calls Tryz.prog 70 #[.slice A xs.length c] w fun e w' => e = .returned (.bool (xs.all elemB)) ∧ w = w' := by
  have HV := Lib.hid hv; clear hv
  go_enter Tryz.func70, Tryz.ntmps70
  go_wp2
  go_loop [7] (fun i => ∃ k : Nat, k ≤ xs.length ∧ i = .int .i64 k ∧ (xs.take k).all elemB = true) (fun i => xs.length - (intOf i).toNat)
  case atStart => exact ⟨0, Nat.zero_le _, rfl, rfl⟩
  case round =>
    obtain ⟨k, hk, rfl, hall⟩ := hrel
    have HALL := Lib.hid hall; clear hall
    by_cases hlt : k < xs.length
    · obtain ⟨x, hx⟩ := get_some xs k hlt
      obtain ⟨b, off, rfl, hcell⟩ := HV.out.at_ hx
      have HX := Lib.hid hx; clear hx
      cases hb : elemB x
      · go_wp2_with (go_at_call 69; refine (element_any _ _).mono ?_; rintro e w' ⟨rfl, rfl⟩)
        go_ret
        exact ⟨ret_bool (all_false_of elemB xs k x HX.out hb).symm, rfl⟩
      · go_wp2_with (go_at_call 69; refine (element_any _ _).mono ?_; rintro e w' ⟨rfl, rfl⟩)
        go_round
        case rel => exact ⟨k + 1, by omega, by go_num, by rw [all_take_succ elemB xs k x HX.out, HALL.out, hb]; rfl⟩
        case measure => simp [intOf]; omega
    · have hk' : xs.length ≤ k := by omega
      go_wp2
      go_ret
      exact ⟨ret_bool (by rw [← HALL.out, List.take_of_length_le hk']), rfl⟩

/-- A difference modulo the prime. -/
def mns (a b : Int) : Int := (a - b + 2147483647) % 2147483647

theorem mns_range (a b : Int) : 0 ≤ mns a b ∧ mns a b < 2147483647 := by unfold mns; omega

theorem mul_range (a b : Int) (ha : 0 ≤ a) (ha' : a ≤ 2147483647) (hb : 0 ≤ b) (hb' : b ≤ 2147483647) : 0 ≤ a * b ∧ a * b ≤ 4611686014132420609 :=
  ⟨Int.mul_nonneg ha hb, Int.le_trans (Int.mul_le_mul ha' hb' hb (by omega)) (by decide)⟩

theorem minus_any (a b : Int) (w : World) (ha : 0 ≤ a) (ha' : a ≤ 2147483647) (hb : 0 ≤ b) (hb' : b ≤ 2147483647) :
    Calls Tryz.prog 72 #[.int .i64 a, .int .i64 b] w fun e w' => e = .returned (.int .i64 (mns a b)) ∧ w = w' := by
  go_enter Tryz.func72, Tryz.ntmps72
  go_wp2
  go_ret
  exact ⟨rfl, rfl⟩

theorem Ints_two (w : World) (T : Nat) (a b : Int) : Ints (w.alloc (.cells #[.int .i64 a, .int .i64 b] T)) (some ⟨w.heap.size, 0, none⟩) [a, b] := by
  refine ⟨rfl, fun _ => ⟨_, _, rfl, fun j u hu => ?_⟩⟩
  rw [World.cell?_alloc_at _ _ _ _ rfl]
  match j, hu with
  | 0, hu => simp at hu; simp [hu]
  | 1, hu => simp at hu; simp [hu]
end

section
open Go.RowKit

/-! ### Plain: the prime, gcd -/
theorem no_div : ((List.range 46341).all fun d => decide (d < 2) || decide (2147483647 % d ≠ 0)) = true := by decide +kernel

theorem prime_dvd (g : Nat) (h : g ∣ 2147483647) : g = 1 ∨ g = 2147483647 := by
  have nd : ∀ d, d < 46341 → 2 ≤ d → ¬ d ∣ 2147483647 := by
    intro d hd h2 hdv
    have h := List.all_eq_true.1 no_div d (List.mem_range.2 hd)
    simp only [ne_eq, Bool.or_eq_true, decide_eq_true_eq] at h
    rcases h with h | h
    · omega
    · exact h (Nat.mod_eq_zero_of_dvd hdv)
  obtain ⟨k, hk⟩ := h
  by_cases hg : g < 46341
  · by_cases h2 : 2 ≤ g
    · exact absurd ⟨k, hk⟩ (nd g hg h2)
    · have : g = 0 ∨ g = 1 := by omega
      rcases this with rfl | rfl
      · omega
      · exact Or.inl rfl
  · by_cases hk2 : k < 46341
    · by_cases h2 : 2 ≤ k
      · exact absurd ⟨g, by rw [Nat.mul_comm]; exact hk⟩ (nd k hk2 h2)
      · have : k = 0 ∨ k = 1 := by omega
        rcases this with rfl | rfl
        · omega
        · exact Or.inr (by omega)
    · have h1 : 46341 * 46341 ≤ g * k := Nat.mul_le_mul (by omega) (by omega)
      omega

theorem gcd_one (a : Int) (h0 : 0 < a) (h1 : a < 2147483647) : Int.gcd 2147483647 a = 1 := by
  have hd : Int.gcd 2147483647 a ∣ 2147483647 := by
    have := Int.gcd_dvd_left (a := 2147483647) (b := a)
    have h2 := Int.ofNat_dvd.1 (show ((Int.gcd 2147483647 a : Nat) : Int) ∣ ((2147483647 : Nat) : Int) from this)
    exact h2
  have hle : Int.gcd 2147483647 a ≤ a.natAbs := Nat.le_of_dvd (by omega) (Int.gcd_dvd_natAbs_right 2147483647 a)
  rcases prime_dvd _ hd with h | h
  · exact h
  · omega

/-- What Euclid's loop keeps. -/
structure Eu (a r s u v : Int) : Prop where
  r0 : 0 < r
  u0 : 0 ≤ u
  rp : r ≤ 2147483647
  up : u ≤ 2147483647
  sl : -2147483647 ≤ s ∧ s ≤ 2147483647
  vl : -2147483647 ≤ v ∧ v ≤ 2147483647
  cr : ∃ k, r = s * a + k * 2147483647
  cu : ∃ k, u = v * a + k * 2147483647
  gc : Int.gcd r u = Int.gcd 2147483647 a
  sg : (0 ≤ s ∧ v ≤ 0 ∧ u * s - r * v = 2147483647) ∨ (s ≤ 0 ∧ 0 ≤ v ∧ r * v - u * s = 2147483647)

theorem Eu.start (a : Int) (h : 0 < a) (h' : a < 2147483647) : Eu a 2147483647 0 a 1 :=
  ⟨by omega, by omega, by omega, by omega, by omega, by omega, ⟨1, by omega⟩, ⟨0, by omega⟩, rfl, Or.inr ⟨by omega, by omega, by omega⟩⟩

theorem mul_ge_self (u x : Int) (hu : 0 < u) (hx : 0 ≤ x) : x ≤ u * x := by
  have := Int.mul_le_mul_of_nonneg_right (show 1 ≤ u by omega) hx
  omega

theorem Eu.next {a r s u v : Int} (h : Eu a r s u v) (hu : 0 < u) : Eu a u v (r - r / u * u) (s - r / u * v) := by
  obtain ⟨r0, u0, rp, up, sl, vl, ⟨k1, cr⟩, ⟨k2, cu⟩, gc, sg⟩ := h
  have hm : r - r / u * u = r % u := by rw [Int.emod_def, Int.mul_comm]
  have hq : 0 ≤ r / u := Int.ediv_nonneg (by omega) u0
  have hm0 : 0 ≤ r % u := Int.emod_nonneg _ (by omega)
  have hm1 : r % u < u := Int.emod_lt_of_pos _ hu
  have g : Int.gcd u (r - r / u * u) = Int.gcd 2147483647 a := by rw [← gc, Int.gcd_sub_mul_right_right, Int.gcd_comm]
  rw [hm] at g
  rw [hm]
  have sg' : (0 ≤ v ∧ s - r / u * v ≤ 0 ∧ r % u * v - u * (s - r / u * v) = 2147483647) ∨ (v ≤ 0 ∧ 0 ≤ s - r / u * v ∧ u * (s - r / u * v) - r % u * v = 2147483647) := by
    rw [← hm]
    generalize r / u = q at *
    rcases sg with ⟨h1, h2, h3⟩ | ⟨h1, h2, h3⟩
    · refine Or.inr ⟨h2, ?_, ?_⟩
      · have := Int.mul_nonneg hq (show 0 ≤ -v by omega)
        rw [Int.mul_neg] at this; omega
      · rw [← h3]; grind
    · refine Or.inl ⟨h2, ?_, ?_⟩
      · have := Int.mul_nonneg hq h2; omega
      · rw [← h3]; grind
  have vl' : -2147483647 ≤ s - r / u * v ∧ s - r / u * v ≤ 2147483647 := by
    generalize s - r / u * v = v' at *
    rcases sg' with ⟨h1, h2, h3⟩ | ⟨h1, h2, h3⟩
    · have a1 := Int.mul_nonneg hm0 h1
      have a2 := mul_ge_self u (-v') hu (by omega)
      rw [Int.mul_neg] at a2; omega
    · have a1 := Int.mul_nonneg hm0 (show 0 ≤ -v by omega)
      rw [Int.mul_neg] at a1
      have a2 := mul_ge_self u v' hu h2
      omega
  refine ⟨hu, hm0, up, by omega, vl, vl', ⟨k2, cu⟩, ⟨k1 - r / u * k2, by rw [← hm]; generalize r / u = q at *; rw [cr, cu]; grind⟩, g, sg'⟩

theorem Eu.bounds {a r s u v : Int} (h : Eu a r s u v) (hu : 0 < u) : 0 ≤ r / u ∧ r / u ≤ 2147483647 ∧ 0 ≤ r / u * u ∧ r / u * u ≤ 2147483647 ∧ -4294967294 ≤ r / u * v ∧ r / u * v ≤ 4294967294 := by
  have hn := h.next hu
  have hq : 0 ≤ r / u := Int.ediv_nonneg (by have := h.r0; omega) h.u0
  have hqu : r / u ≤ r := Int.ediv_le_self _ (by have := h.r0; omega)
  have h1 := Int.mul_nonneg hq h.u0
  have h2 := hn.u0
  have h3 := hn.vl
  have h4 := h.sl
  have h5 := h.rp
  omega

/-- Its end: what the loop hands back is the inverse. -/
theorem Eu.fin {a r s v : Int} (h : Eu a r s 0 v) (ha : 0 < a) (ha' : a < 2147483647) : (s % 2147483647) * a % 2147483647 = 1 := by
  have g := h.gc
  rw [gcd_one a ha ha', Int.gcd_zero] at g
  have hr : r = 1 := by have := h.r0; omega
  obtain ⟨k, hk⟩ := h.cr
  have : s * a = 1 + (-k) * 2147483647 := by omega
  rw [Int.mul_emod, Int.emod_emod_of_dvd _ (Int.dvd_refl _), ← Int.mul_emod, this, Int.add_mul_emod_self_right]
  rfl

/-- The inverse of an element that isn't 0. -/
noncomputable def invp (a : Int) : Int := by
  classical exact if h : ∃ r : Int, 0 ≤ r ∧ r < 2147483647 ∧ r * a % 2147483647 = 1 then h.choose else 0

theorem inv_unique (a r r' : Int) (h0 : 0 ≤ r) (h1 : r < 2147483647) (h : r * a % 2147483647 = 1) (h0' : 0 ≤ r') (h1' : r' < 2147483647) (h' : r' * a % 2147483647 = 1) : r = r' := by
  have e1 : r * a * r' % 2147483647 = r' % 2147483647 := by rw [Int.mul_emod, h]; simp
  have e2 : r' * a * r % 2147483647 = r % 2147483647 := by rw [Int.mul_emod, h']; simp
  have e3 : r * a * r' = r' * a * r := by grind
  rw [e3, e2] at e1
  rw [Int.emod_eq_of_lt h0 h1, Int.emod_eq_of_lt h0' h1'] at e1
  exact e1

theorem invp_eq (a r : Int) (h0 : 0 ≤ r) (h1 : r < 2147483647) (h : r * a % 2147483647 = 1) : invp a = r := by
  unfold invp
  have hex : ∃ r : Int, 0 ≤ r ∧ r < 2147483647 ∧ r * a % 2147483647 = 1 := ⟨r, h0, h1, h⟩
  rw [dif_pos hex]
  obtain ⟨g0, g1, g2⟩ := hex.choose_spec
  exact inv_unique a _ _ g0 g1 g2 h0 h1 h

theorem inv_exists (a : Int) (ha : 0 < a) (ha' : a < 2147483647) : ∀ (n : Nat) (r s u v : Int), Eu a r s u v → u.toNat ≤ n → ∃ q : Int, 0 ≤ q ∧ q < 2147483647 ∧ q * a % 2147483647 = 1 := by
  intro n
  induction n with
  | zero =>
    intro r s u v h hu
    have hu0 := h.u0
    obtain rfl : u = 0 := by omega
    exact ⟨s % 2147483647, by omega, by omega, h.fin ha ha'⟩
  | succ n ih =>
    intro r s u v h hu
    by_cases h0 : 0 < u
    · have hn := h.next h0
      have hm : r - r / u * u = r % u := by rw [Int.emod_def, Int.mul_comm]
      have hlt := Int.emod_lt_of_pos r h0
      have hge := hn.u0
      exact ih _ _ _ _ hn (by omega)
    · have hu0 := h.u0
      obtain rfl : u = 0 := by omega
      exact ⟨s % 2147483647, by omega, by omega, h.fin ha ha'⟩

theorem invp_spec (a : Int) (ha : 0 < a) (ha' : a < 2147483647) : 0 ≤ invp a ∧ invp a < 2147483647 ∧ invp a * a % 2147483647 = 1 := by
  obtain ⟨q, q0, q1, q2⟩ := inv_exists a ha ha' _ _ _ _ _ (Eu.start a ha ha') (Nat.le_refl _)
  rw [invp_eq a q q0 q1 q2]
  exact ⟨q0, q1, q2⟩

theorem tmod_fin (s : Int) (h : -2147483647 ≤ s) (h' : s ≤ 2147483647) : (s.tmod 2147483647 + 2147483647) % 2147483647 = s % 2147483647 ∧ -2147483647 < s.tmod 2147483647 ∧ s.tmod 2147483647 < 2147483647 := by
  by_cases hs : 0 ≤ s
  · rw [Int.tmod_eq_emod_of_nonneg hs]; omega
  · have e : s.tmod 2147483647 = -((-s) % 2147483647) := by
      rw [← Int.tmod_eq_emod_of_nonneg (show 0 ≤ -s by omega), Int.neg_tmod, Int.neg_neg]
    rw [e]; omega

set_option maxHeartbeats 400000 in
theorem inverse_any (a : Int) (w : World) (h0 : 0 < a) (h1 : a < 2147483647) :
    Calls Tryz.prog 73 #[.int .i64 a] w fun e w' => (e = .returned (.int .i64 (invp a)) ∧ 0 ≤ invp a ∧ invp a < 2147483647 ∧ invp a * a % 2147483647 = 1) ∧ w = w' := by
  go_enter Tryz.func73, Tryz.ntmps73
  go_wp2
  go_loop [3, 4, 5, 6] (fun tr ts tu tv => ∃ r s u v : Int, tr = .int .i64 r ∧ ts = .int .i64 s ∧ tu = .int .i64 u ∧ tv = .int .i64 v ∧ Eu a r s u v) (fun _ _ tu _ => (intOf tu).toNat)
  case atStart => exact ⟨_, _, _, _, rfl, rfl, rfl, rfl, Eu.start a h0 h1⟩
  case round =>
    obtain ⟨r, s, u, v, rfl, rfl, rfl, rfl, hE⟩ := hrel
    have HE := Lib.hid hE
    obtain ⟨r0, u0, rp, up, ⟨sl, sl'⟩, ⟨vl, vl'⟩, -, -, -, -⟩ := hE
    by_cases hu : 0 < u
    · obtain ⟨b1, b2, b3, b4, b5, b6⟩ := HE.out.bounds hu
      go_wp2
      go_round
      case rel => exact ⟨_, _, _, _, rfl, rfl, rfl, rfl, HE.out.next hu⟩
      case measure =>
        have h1 := (HE.out.next hu).u0
        have h2 : r - r / u * u < u := by
          have : r - r / u * u = r % u := by rw [Int.emod_def, Int.mul_comm]
          rw [this]; exact Int.emod_lt_of_pos _ hu
        simp [intOf]; omega
    · obtain rfl : u = 0 := by omega
      obtain ⟨t1, t2, t3⟩ := tmod_fin s sl sl'
      have T1 : Hid (s.tmod 2147483647 % 2147483647 = s % 2147483647) := Lib.hid (by omega); clear t1
      go_wp2
      go_ret
      have hb0 : 0 ≤ s % 2147483647 := by omega
      have hb1 : s % 2147483647 < 2147483647 := by omega
      have hf := HE.out.fin h0 h1
      have e := invp_eq a _ hb0 hb1 hf
      rw [e]
      exact ⟨⟨ret_int T1.out, hb0, hb1, hf⟩, rfl⟩
end

section
open Go.RowKit

/-- Horner's scheme modulo the prime. -/
def evp : List Int → Int → Int
  | [], _ => 0
  | a :: l, x => (evp l x * x + a) % 2147483647

theorem evp_range (l : List Int) (x : Int) : 0 ≤ evp l x ∧ evp l x < 2147483647 := by
  cases l with
  | nil => simp [evp]
  | cons a l => simp only [evp]; omega

theorem evp_drop (xs : List Int) (x : Int) (k : Nat) (y : Int) (hk : xs[k]? = some y) : evp (xs.drop k) x = (evp (xs.drop (k + 1)) x * x + y) % 2147483647 := by
  obtain ⟨h, rfl⟩ := List.getElem?_eq_some_iff.1 hk
  rw [List.drop_eq_getElem_cons h]; rfl

theorem elemB_iff (x : Int) : elemB x = true ↔ 0 ≤ x ∧ x < 2147483647 := by simp [elemB]

set_option maxHeartbeats 800000 in
theorem eval_any (A : Option Addr) (c : Nat) (xs : List Int) (x : Int) (w : World) (hv : Ints w A xs) (hl : xs.length ≤ 16) (hall : xs.all elemB = true) (hx : elemB x = true) :
    Calls Tryz.prog 89 #[.slice A xs.length c, .int .i64 x] w fun e w' => e = .returned (.tuple #[.int .i64 (evp xs x), .int .i64 0]) ∧ w = w' := by
  have ⟨hx0, hx1⟩ := (elemB_iff x).1 hx
  have HV := Lib.hid hv; clear hv
  have HALL := Lib.hid hall; clear hall
  have HX := Lib.hid hx; clear hx
  go_enter Tryz.func89, Tryz.ntmps89
  go_wp2_with fail
  refine (elements_any _ _ xs _ HV.out (by omega)).mono ?_
  rintro e w' ⟨rfl, rfl⟩
  rw [HALL.out]
  go_wp2_with fail
  refine (element_any _ _).mono ?_
  rintro e w' ⟨rfl, rfl⟩
  rw [HX.out]
  go_wp2
  go_loop [6, 23] (fun o i => ∃ k : Nat, k ≤ xs.length ∧ i = .int .i64 k ∧ o = .int .i64 (evp (xs.drop (xs.length - k)) x)) (fun _ i => xs.length - (intOf i).toNat)
  case atStart => exact ⟨0, Nat.zero_le _, rfl, by simp [evp]⟩
  case round =>
    obtain ⟨k, hk, rfl, rfl⟩ := hrel
    obtain ⟨r0, r1⟩ := evp_range (xs.drop (xs.length - k)) x
    by_cases hlt : k < xs.length
    · obtain ⟨y, hy⟩ : ∃ y, xs[xs.length - 1 - k]? = some y := get_some _ _ (by omega)
      obtain ⟨b, off, rfl, hcell⟩ := HV.out.at_ hy
      have he := evp_drop xs x _ y hy
      rw [show xs.length - 1 - k + 1 = xs.length - k by omega] at he
      have hy2 := (elemB_iff y).1 (List.all_eq_true.1 HALL.out y (List.mem_of_getElem? hy))
      obtain ⟨y0, y1⟩ := hy2
      rw [show xs.length - 1 - k = xs.length - (k + 1) by omega] at he
      have HE := Lib.hid he; clear he hy
      generalize evp (xs.drop (xs.length - k)) x = acc at *
      have m0 : 0 ≤ acc * x := Int.mul_nonneg r0 hx0
      have m1 : acc * x ≤ 2147483647 * 2147483647 := Int.mul_le_mul (by omega) (by omega) hx0 (by omega)
      go_wp2
      go_round
      case rel => exact ⟨k + 1, by omega, by go_num, by rw [HE.out]⟩
      case measure => simp [intOf]; omega
    · have hk' : k = xs.length := by omega
      go_wp2
      go_ret2
      exact ⟨rfl, rfl⟩
end

section
open Go.RowKit

/-- One step of Neville's scheme. -/
noncomputable def nst (x xi xk vi vj : Int) : Int := mns (mns x xk * vi % 2147483647) (mns x xi * vj % 2147483647) * invp (mns xi xk) % 2147483647

theorem nst_range (x xi xk vi vj : Int) : 0 ≤ nst x xi xk vi vj ∧ nst x xi xk vi vj < 2147483647 := by unfold nst; omega

theorem mns_pos (a b : Int) (h0 : 0 ≤ a) (h1 : a < 2147483647) (g0 : 0 ≤ b) (g1 : b < 2147483647) (h : a ≠ b) : 0 < mns a b := by unfold mns; omega

set_option maxHeartbeats 1600000 in
theorem join_any (i k n b off cap bp bx ba : Nat) (x xi xk vi vj : Int) (w : World)
    (hi : i + 1 < 16) (hin : i < n) (hkn : k < n) (_hn : n ≤ 16) (_hcap : n ≤ cap)
    (hbp : w.cell? ⟨bp, 0, none⟩ = some (.slice (some ⟨b, off, none⟩) n cap)) (hbx : w.cell? ⟨bx, 0, none⟩ = some (.int .i64 x))
    (hxi : w.cell? ⟨b, off + i * 2, none⟩ = some (.int .i64 xi)) (hxk : w.cell? ⟨b, off + k * 2, none⟩ = some (.int .i64 xk))
    (hvi : w.cell? ⟨ba, i, none⟩ = some (.int .i64 vi)) (hvj : w.cell? ⟨ba, i + 1, none⟩ = some (.int .i64 vj)) (hfr : w.frozen? ⟨ba, i, none⟩ = false)
    (x0 : 0 ≤ x) (x1 : x < 2147483647) (xi0 : 0 ≤ xi) (xi1 : xi < 2147483647) (xk0 : 0 ≤ xk) (xk1 : xk < 2147483647)
    (vi0 : 0 ≤ vi) (vi1 : vi < 2147483647) (vj0 : 0 ≤ vj) (vj1 : vj < 2147483647) (hne : xi ≠ xk) :
    Calls Tryz.prog 71 #[.int .i64 i, .int .i64 k, .pointer (some ⟨bp, 0, none⟩), .pointer (some ⟨bx, 0, none⟩), .pointer (some ⟨ba, 0, none⟩)] w fun e w' =>
      e = .returned (.tuple #[]) ∧ ∃ m, w' = (w.drewN m).setCell ⟨ba, i, none⟩ (.int .i64 (nst x xi xk vi vj)) := by
  have hp := mns_pos xi xk xi0 xi1 xk0 xk1 hne
  clear hne
  obtain ⟨a0, a1⟩ := mns_range x xk
  obtain ⟨b0, b1⟩ := mns_range x xi
  obtain ⟨c0, c1⟩ := mns_range xi xk
  obtain ⟨m0, m1⟩ := mul_range (mns x xk) vi a0 (by omega) vi0 (by omega)
  obtain ⟨n0, n1⟩ := mul_range (mns x xi) vj b0 (by omega) vj0 (by omega)
  obtain ⟨l0, l1⟩ := mns_range (mns x xk * vi % 2147483647) (mns x xi * vj % 2147483647)
  go_enter Tryz.func71, Tryz.ntmps71
  go_wp2
  go_quiet (fail)
  go_wp2
  go_quiet ((go_at_call 72; exact quiet_same2 (minus_any _ _ _ (by omega) (by omega) (by omega) (by omega))))
  go_wp2_with fail
  refine (minus_any _ _ _ (by omega) (by omega) (by omega) (by omega)).mono ?_
  rintro e w' ⟨rfl, rfl⟩
  go_wp2_with fail
  refine (minus_any _ _ _ (by omega) (by omega) (by omega) (by omega)).mono ?_
  rintro e w' ⟨rfl, rfl⟩
  go_wp2_with fail
  refine (inverse_any _ _ hp c1).mono ?_
  rintro e w' ⟨⟨rfl, i0, i1, -⟩, rfl⟩
  obtain ⟨k0, k1⟩ := mul_range _ _ l0 (by omega) i0 (by omega)
  go_wp2
  go_end0
  exact ⟨rfl, _, rfl⟩
end

section
open Go.RowKit Go.Maps

/-- A slice of pairs of ints. -/
def Pts (w : World) (b off : Nat) (ps : List (Int × Int)) : Prop :=
  ∀ j p, ps[j]? = some p → w.cell? ⟨b, off + j * 2, none⟩ = some (.int .i64 p.1) ∧ w.cell? ⟨b, off + j * 2 + 1, none⟩ = some (.int .i64 p.2)

theorem intKeyed : Keyed Tryz.prog 3 := int_keyed Tryz.underlying3

/-- The map of the first elements seen so far. -/
def Seen (w : World) (B n : Nat) (xs : List Int) : Prop :=
  ∃ D : DataW Unit, w.ownsMap Tryz.prog 3 (plainElem Tryz.prog 4) B n D ∧ IsMap D ∧ ∀ y : Int, D.atKey (.int .i64 y) (.lit (.bool false)) = .lit (.bool (decide (y ∈ xs)))

theorem Seen.made (w : World) : Seen (w.alloc (.map #[] 0)) w.heap.size 0 [] :=
  ⟨_, World.ownsMap_made _ _ _ _, ⟨[], rfl⟩, fun y => by simp [DataW.atKey]⟩

theorem Seen.grown {w w' : World} {B n : Nat} {xs : List Int} (h : Seen w B n xs) {row : Option Nat} (hg : w.grownBy w' row) (hne : some B ≠ row) : Seen w' B n xs := by
  obtain ⟨D, h1, h2, h3⟩ := h
  exact ⟨D, h1.kept hg hne, h2, h3⟩

theorem zeroBool (w : World) : (zeroValue 4).run Tryz.prog w = .ok (.bool false) w := by kernel_rfl

theorem wf_elem {x : Int} (h : elemB x = true) : (Lit.int .i64 x).wf = true := by
  have ⟨h0, h1⟩ := (elemB_iff x).1 h
  exact WalkArith.wf_i64 (by omega)

set_option maxRecDepth 100000 in
theorem Seen.look {w : World} {B n : Nat} {xs : List Int} (h : Seen w B n xs) (x : Int) (hx : elemB x = true) (hn : x ∉ xs) :
    (Instr.lookup 100 (.map (some B)) (.int .i64 x) false).run Tryz.prog w = .ok (.bool false) w := by
  obtain ⟨D, h1, h2, h3⟩ := h
  obtain ⟨v, ps, hr, hv⟩ := h1.lookup intKeyed Tryz.underlying100 (zeroBool w) (plainElem_bool Tryz.underlying4 false) (keyOf_int_mk Tryz.underlying3 (wf_elem hx))
  rw [h3 x] at hv
  have hf : decide (x ∈ xs) = false := by simpa using hn
  rw [hf] at hv
  have : v = .bool false := by
    unfold plainElem at hv
    rw [Tryz.underlying4] at hv
    cases v <;> simp at hv
    rw [hv.1]
  rw [hr, this]

set_option maxRecDepth 100000 in
theorem Seen.put {w : World} {B n : Nat} {xs : List Int} (h : Seen w B n xs) (x : Int) (hx : elemB x = true) (hn : n < 1000) :
    ∃ w', (Instr.mapUpdate 100 (.map (some B)) (.int .i64 x) (.bool true)).run Tryz.prog w = .ok () w' ∧ Seen w' B (n + 1) (xs ++ [x]) ∧ w.grownBy w' (some B) := by
  obtain ⟨D, h1, h2, h3⟩ := h
  obtain ⟨w', hr, ho, hg⟩ := h1.update intKeyed Tryz.underlying100 (by unfold maxLen; omega) (keyOf_int_mk Tryz.underlying3 (wf_elem hx)) (plainElem_bool Tryz.underlying4 true)
  refine ⟨w', hr, ⟨_, ho, ?_, ?_⟩, hg⟩
  · obtain ⟨es, rfl⟩ := h2
    exact ⟨_, rfl⟩
  · intro y
    by_cases hy : y = x
    · subst hy
      rw [atKey_put_same h2 (by trivial)]; simp
    · rw [atKey_put_other (by simpa using hy), h3 y]
      simp [hy]

/-- A block of ints that the call made: its j-th cell is f j. -/
def Arr (w : World) (B T n : Nat) (f : Nat → Int) : Prop :=
  ∃ cs : Array Value, w.heap[B]? = some (.cells cs T (0, 0)) ∧ cs.size = n ∧ ∀ j, j < n → cs[j]? = some (.int .i64 (f j))

theorem Arr.lt {w : World} {B T n : Nat} {f : Nat → Int} (h : Arr w B T n f) : B < w.heap.size := by
  obtain ⟨cs, h1, _⟩ := h
  exact (Array.getElem?_eq_some_iff.1 h1).1
theorem Arr.cell {w : World} {B T n : Nat} {f : Nat → Int} (h : Arr w B T n f) (j : Nat) (hj : j < n) : w.cell? ⟨B, j, none⟩ = some (.int .i64 (f j)) := by
  obtain ⟨cs, h1, h2, h3⟩ := h
  rw [cell_of_row w B j cs T (0, 0) h1]; exact h3 j hj
theorem Arr.frozen {w : World} {B T n : Nat} {f : Nat → Int} (h : Arr w B T n f) (j : Nat) : w.frozen? ⟨B, j, none⟩ = false := by
  obtain ⟨cs, h1, h2, h3⟩ := h
  exact frozen_of_row w B j cs T h1
theorem Arr.grown {w w' : World} {B T n : Nat} {f : Nat → Int} (h : Arr w B T n f) {row : Option Nat} (hg : w.grownBy w' row) (hne : some B ≠ row) : Arr w' B T n f := by
  have hlt := h.lt
  obtain ⟨cs, h1, h2⟩ := h
  exact ⟨cs, (hg.block B hlt hne).trans h1, h2⟩
theorem Arr.alloc {w : World} {B T n : Nat} {f : Nat → Int} (h : Arr w B T n f) (o : Obj) : Arr (w.alloc o) B T n f := h.grown (World.grownBy_alloc w o none) (by simp)
theorem Arr.drewN {w : World} {B T n : Nat} {f : Nat → Int} (h : Arr w B T n f) (m : Nat) : Arr (w.drewN m) B T n f := h
theorem Arr.set {w : World} {B T n : Nat} {f : Nat → Int} (h : Arr w B T n f) (i : Nat) (v : Int) : Arr (w.setCell ⟨B, i, none⟩ (.int .i64 v)) B T n (fun j => if j = i then v else f j) := by
  obtain ⟨cs, h1, h2, h3⟩ := h
  refine ⟨cs.setIfInBounds i (.int .i64 v), heap_setCell_same w B i cs T _ h1, by simpa using h2, fun j hj => ?_⟩
  by_cases hji : j = i
  · subst hji
    simp [h2, hj]
  · rw [Array.getElem?_setIfInBounds_ne (by omega), h3 j hj]
    simp [hji]

theorem Arr.zeros16 (w : World) (T : Nat) : Arr (w.alloc (.cells #[.int .i64 0, .int .i64 0, .int .i64 0, .int .i64 0, .int .i64 0, .int .i64 0, .int .i64 0, .int .i64 0, .int .i64 0, .int .i64 0, .int .i64 0, .int .i64 0, .int .i64 0, .int .i64 0, .int .i64 0, .int .i64 0] T)) w.heap.size T 16 (fun _ => 0) := by
  refine ⟨_, heap_alloc_new w _, rfl, fun j hj => ?_⟩
  match j, hj with
  | 0, _ | 1, _ | 2, _ | 3, _ | 4, _ | 5, _ | 6, _ | 7, _ | 8, _ | 9, _ | 10, _ | 11, _ | 12, _ | 13, _ | 14, _ | 15, _ => rfl
  | n + 16, h => omega

/-- Neville's scheme: the value at x of the polynomial through the points j .. j + k. -/
noncomputable def nv (x : Int) (ps : List (Int × Int)) : Nat → Nat → Int
  | 0, j => (ps[j]?.getD (0, 0)).2
  | k + 1, j => nst x (ps[j]?.getD (0, 0)).1 (ps[j + (k + 1)]?.getD (0, 0)).1 (nv x ps k j) (nv x ps k (j + 1))

theorem nv_range (x : Int) (ps : List (Int × Int)) (hall : ∀ p, p ∈ ps → elemB p.1 = true ∧ elemB p.2 = true) (k j : Nat) : 0 ≤ nv x ps k j ∧ nv x ps k j < 2147483647 := by
  cases k with
  | zero =>
    simp only [nv]
    cases h : ps[j]? with
    | none => simp
    | some p => have := (elemB_iff p.2).1 (hall p (List.mem_of_getElem? h)).2; simpa using this
  | succ k => exact nst_range _ _ _ _ _
end

section
open Go.RowKit Go.Maps

set_option maxHeartbeats 4000000 in
theorem interp_any (b off cap : Nat) (ps : List (Int × Int)) (x : Int) (w : World) (hb : b < w.heap.size) (hc : Pts w b off ps) (h1 : 1 ≤ ps.length) (h16 : ps.length ≤ 16)
    (hcap : ps.length ≤ cap) (hx : elemB x = true) (hall : ∀ p, p ∈ ps → elemB p.1 = true ∧ elemB p.2 = true) (hnd : (ps.map (·.1)).Nodup) :
    Calls Tryz.prog 42 #[.slice (some ⟨b, off, none⟩) ps.length cap, .int .i64 x] w fun e w' =>
      e = .returned (.tuple #[.int .i64 (nv x ps (ps.length - 1) 0), .int .i64 0]) ∧ Below w.heap.size w w' := by
  have HX := Lib.hid hx; clear hx
  have HALL := Lib.hid hall; clear hall
  have HND := Lib.hid hnd; clear hnd
  have HC := Lib.hid hc; clear hc
  have hmm := @run_makeMap Tryz.prog
  have hmf : ∀ (fn : Fn) (first cap : Array Value) (w : World), (Instr.makeFunc fn first cap).run Tryz.prog w = .ok (.func fn first cap) w := fun _ _ _ _ => rfl
  go_enter Tryz.func42, Tryz.ntmps42
  go_wp2_with fail
  refine (element_any _ _).mono ?_
  rintro e w' ⟨rfl, rfl⟩
  rw [HX.out]
  go_wp2_with fail
  obtain ⟨w0, hw0⟩ : ∃ w0, w0 = (w.alloc (Obj.cells #[Value.slice (some { block := b, off := off }) ps.length cap] 75)).alloc (Obj.cells #[Value.int IntKind.i64 x] 3) := ⟨_, rfl⟩
  have hs0 : w0.heap.size = w.heap.size + 2 := by rw [hw0]; simp
  have HBW : Hid (Below w.heap.size w w0) := Lib.hid (by rw [hw0]; exact ((Below.refl _ _).alloc (Nat.le_refl _) _).alloc (by simp) _)
  have HQ1 : Hid (w0.cell? ⟨w.heap.size, 0, none⟩ = some (.slice (some ⟨b, off, none⟩) ps.length cap)) := Lib.hid (by rw [hw0]; simp [World.cell?_alloc_past, World.cell?_alloc_at])
  have HQ2 : Hid (w0.cell? ⟨w.heap.size + 1, 0, none⟩ = some (.int .i64 x)) := Lib.hid (by rw [hw0]; simp [World.cell?_alloc_at])
  have HW0 := Lib.hid hw0; clear hw0
  have HS0 := Lib.hid hs0; clear hs0
  go_loopw [7, 32] (fun u7 u32 wr => ∃ k : Nat, k ≤ ps.length ∧ u32 = .int .i64 k ∧ u7 = .bool false ∧ Below (w.heap.size + 2) w0 wr ∧ Seen wr (w.heap.size + 2) k ((ps.map (·.1)).take k)) (fun _ u32 _ => ps.length - (intOf u32).toNat)
  case atStart => exact ⟨0, Nat.zero_le _, rfl, rfl, by rw [HW0.out]; exact (Below.refl _ _).alloc (by simp) _, by have h := Seen.made w0; rw [HS0.out] at h; rw [← HW0.out]; simpa using h⟩
  case round =>
    obtain ⟨k, hk, rfl, rfl, hB, hS⟩ := hrel
    have HB := Lib.hid hB; clear hB
    have HS := Lib.hid hS; clear hS
    have hsz : w.heap.size + 2 < wr.heap.size := by obtain ⟨D, hD, _⟩ := HS.out; exact hD.lt
    by_cases hlt : k < ps.length
    · obtain ⟨p, hp⟩ : ∃ p, ps[k]? = some p := ⟨_, List.getElem?_eq_getElem hlt⟩
      obtain ⟨hc1, hc2⟩ := HC.out k p hp
      have hc1' := below_cell HB.out (by omega) (below_cell HBW.out hb hc1)
      have hc2' := below_cell HB.out (by omega) (below_cell HBW.out hb hc2)
      clear hc1 hc2
      obtain ⟨he1, he2⟩ := HALL.out p (List.mem_of_getElem? hp)
      have hall : [p.1, p.2].all elemB = true := by simp [he1, he2]
      have hpx : (ps.map (·.1))[k]? = some p.1 := by simp [hp]
      have hnm := nodup_not_mem HND.out k _ hpx
      have hS1 := HS.out.grown (World.grownBy_alloc wr (.cells #[.int .i64 p.1, .int .i64 p.2] 74) none) (by simp)
      have hlook := hS1.look p.1 he1 hnm
      obtain ⟨w2, hput, hS2, hg2⟩ := hS1.put p.1 he1 (by omega)
      have hB2 : Below (w.heap.size + 2) w0 w2 := ((HB.out).alloc (by omega) _).grown hg2 (by simp; omega) (by simp)
      rw [← take_snoc _ k _ hpx] at hS2
      have HS2 := Lib.hid hS2; clear hS2
      have HB2 := Lib.hid hB2; clear hB2
      have HG2 := Lib.hid hg2; clear hg2
      have HAL := Lib.hid hall; clear hall
      clear hS1 hnm he1 he2 hpx
      have HP := Lib.hid hp; clear hp
      go_wp2_with fail
      refine (elements_any _ _ [p.1, p.2] _ (Ints_two wr _ p.1 p.2) (by simp)).mono ?_
      rintro e w' ⟨rfl, rfl⟩
      rw [HAL.out]
      go_wp2
      go_roundw
      case rel => exact ⟨k + 1, by omega, by go_num, rfl, HB2.out, HS2.out⟩
      case measure => simp [intOf]; omega
    · have hbox := below_cell HB.out (by omega) HQ1.out
      have hsz0 : w.heap.size < wr.heap.size := by omega
      have hsz1 : w.heap.size + 1 < wr.heap.size := by omega
      go_wp2_with fail
      obtain ⟨w1, rfl⟩ : ∃ w1 : World, w1 = wr := ⟨_, rfl⟩
      go_loopw [11, 53] (fun u11 u53 wr => ∃ (i : Nat) (f : Nat → Int), i ≤ ps.length ∧ u53 = .int .i64 i ∧ Below (w.heap.size + 2) w0 wr ∧ Arr wr w1.heap.size 102 16 f ∧ (∀ j, j < i → f j = nv x ps 0 j) ∧ (∀ j, 0 ≤ f j ∧ f j < 2147483647)) (fun _ u53 _ => ps.length - (intOf u53).toNat)
      case atStart => exact ⟨0, fun _ => 0, Nat.zero_le _, rfl, (HB.out).alloc (by omega) _, Arr.zeros16 _ _, by simp, by simp⟩
      case round =>
        obtain ⟨i, f, hi, rfl, hB1, hA, hf, hr⟩ := hrel
        have HB1 := Lib.hid hB1; clear hB1
        have HA := Lib.hid hA; clear hA
        have HF := Lib.hid hf; clear hf
        have HR := Lib.hid hr; clear hr
        have hA1 := HA.out.lt
        by_cases hli : i < ps.length
        · obtain ⟨p, hp⟩ : ∃ p, ps[i]? = some p := ⟨_, List.getElem?_eq_getElem hli⟩
          obtain ⟨hc1, hc2⟩ := HC.out i p hp
          have hc1' := below_cell HB1.out (by omega) (below_cell HBW.out hb hc1)
          have hc2' := below_cell HB1.out (by omega) (below_cell HBW.out hb hc2)
          clear hc1 hc2
          have hac := HA.out.cell i (by omega)
          have haf := HA.out.frozen i
          have hi16 : (i : Int) < 16 := by omega
          have HP := Lib.hid hp; clear hp
          go_wp2
          go_roundw
          case rel =>
            refine ⟨i + 1, _, by omega, by go_num, ((HB1.out).setCell (p := ⟨w1.heap.size, i, none⟩) (by simp; omega) _).alloc (by simp; omega) _, (HA.out.set i p.2).alloc _, fun j hj => ?_, fun j => ?_⟩
            · by_cases hji : j = i
              · subst hji; simp [nv, HP.out]
              · simp only [hji, if_false]; exact HF.out j (by omega)
            · have ⟨he1, he2⟩ := HALL.out p (List.mem_of_getElem? HP.out)
              have := (elemB_iff p.2).1 he2
              by_cases hji : j = i
              · simp only [hji, if_true]; exact this
              · simp only [hji, if_false]; exact HR.out j
          case measure => simp [intOf]; omega
        · have hbox := below_cell HB1.out (by omega) HQ1.out
          have hboxx := below_cell HB1.out (by omega) HQ2.out
          have hnv := fun k j => nv_range x ps HALL.out k j
          have HNV := Lib.hid hnv; clear hnv
          have hfi : ∀ j, j < ps.length → f j = nv x ps 0 j := fun j hj => HF.out j (by omega)
          have HFI := Lib.hid hfi; clear hfi
          go_wp2_with fail
          obtain ⟨w2, rfl⟩ : ∃ w2 : World, w2 = wr := ⟨_, rfl⟩
          go_loopw [14] (fun u14 wr => ∃ (d : Nat) (f : Nat → Int), 1 ≤ d ∧ d ≤ ps.length ∧ u14 = .int .i64 d ∧ Below (w.heap.size + 2) w0 wr ∧ Arr wr w1.heap.size 102 16 f ∧ (∀ j, j + d ≤ ps.length → f j = nv x ps (d - 1) j) ∧ (∀ j, 0 ≤ f j ∧ f j < 2147483647)) (fun u14 _ => ps.length - (intOf u14).toNat)
          case atStart => exact ⟨1, f, Nat.le_refl _, h1, rfl, HB1.out, HA.out, fun j hj => HFI.out j (by omega), HR.out⟩
          case round =>
            obtain ⟨d, g, hd1, hd2, rfl, hB2, hA2, hg, hr2⟩ := hrel
            have HB2 := Lib.hid hB2; clear hB2
            have HA2 := Lib.hid hA2; clear hA2
            have HG := Lib.hid hg; clear hg
            have HR2 := Lib.hid hr2; clear hr2
            clear hbox hboxx
            have hbox := below_cell HB2.out (by omega) HQ1.out
            have hboxx := below_cell HB2.out (by omega) HQ2.out
            have hA3 := HA2.out.lt
            by_cases hld : d < ps.length
            · go_wp2_with fail
              obtain ⟨w3, rfl⟩ : ∃ w3 : World, w3 = wr := ⟨_, rfl⟩
              go_loopw [15, 74] (fun u15 u74 wr => ∃ (i : Nat) (f : Nat → Int), i + d ≤ ps.length ∧ u74 = .int .i64 i ∧ Below (w.heap.size + 2) w0 wr ∧ Arr wr w1.heap.size 102 16 f ∧ (∀ j, j < i → f j = nv x ps d j) ∧ (∀ j, i ≤ j → j + d ≤ ps.length → f j = nv x ps (d - 1) j) ∧ (∀ j, 0 ≤ f j ∧ f j < 2147483647)) (fun _ u74 _ => ps.length - (intOf u74).toNat)
              case atStart => exact ⟨0, g, by omega, rfl, HB2.out, HA2.out, by simp, fun j _ hj => HG.out j hj, HR2.out⟩
              case round =>
                obtain ⟨i, f, hi, rfl, hB3, hA4, hf1, hf2, hr3⟩ := hrel
                have HB3 := Lib.hid hB3; clear hB3
                have HA4 := Lib.hid hA4; clear hA4
                have HF1 := Lib.hid hf1; clear hf1
                have HF2 := Lib.hid hf2; clear hf2
                have HR3 := Lib.hid hr3; clear hr3
                by_cases hle : i + d < ps.length
                · obtain ⟨p, hp⟩ : ∃ p, ps[i]? = some p := ⟨_, List.getElem?_eq_getElem (by omega)⟩
                  obtain ⟨q, hq⟩ : ∃ q, ps[i + d]? = some q := ⟨_, List.getElem?_eq_getElem (by omega)⟩
                  have ⟨hc1, _⟩ := HC.out i p hp
                  have ⟨hc2, _⟩ := HC.out (i + d) q hq
                  have hc1' := below_cell HB3.out (by omega) (below_cell HBW.out hb hc1)
                  have hc2' := below_cell HB3.out (by omega) (below_cell HBW.out hb hc2)
                  have hb1 := below_cell HB3.out (by omega) HQ1.out
                  have hb2 := below_cell HB3.out (by omega) HQ2.out
                  have ⟨p0, p1⟩ := (elemB_iff p.1).1 (HALL.out p (List.mem_of_getElem? hp)).1
                  have ⟨q0, q1⟩ := (elemB_iff q.1).1 (HALL.out q (List.mem_of_getElem? hq)).1
                  have ⟨x0, x1⟩ := (elemB_iff x).1 HX.out
                  have hne : p.1 ≠ q.1 := nodup_ne HND.out i (i + d) p.1 q.1 (by simp [hp]) (by simp [hq]) (by omega)
                  have hj := join_any i (i + d) ps.length b off cap w.heap.size (w.heap.size + 1) w1.heap.size x p.1 q.1 (f i) (f (i + 1)) wr (by omega) (by omega) hle h16 hcap hb1 hb2 hc1' hc2'
                    (HA4.out.cell i (by omega)) (HA4.out.cell (i + 1) (by omega)) (HA4.out.frozen i) x0 x1 p0 p1 q0 q1 (HR3.out i).1 (HR3.out i).2 (HR3.out (i + 1)).1 (HR3.out (i + 1)).2 hne
                  have HJ := Lib.hid hj; clear hj
                  have he : nst x p.1 q.1 (f i) (f (i + 1)) = nv x ps d i := by
                    obtain ⟨d', rfl⟩ : ∃ d', d = d' + 1 := ⟨d - 1, by omega⟩
                    rw [nv, HF2.out i (Nat.le_refl _) (by omega), HF2.out (i + 1) (by omega) (by omega), hp, hq]
                    rfl
                  have HE := Lib.hid he
                  have HP := Lib.hid hp
                  have HQ := Lib.hid hq
                  clear hp hq hc1 hc2 hc1' hc2' hb1 hb2 hne he
                  go_wp2_with fail
                  refine HJ.out.mono ?_
                  rintro e w' ⟨rfl, m, rfl⟩
                  go_wp2
                  go_roundw
                  case rel =>
                    refine ⟨i + 1, _, by omega, by go_num, (below_drewN HB3.out m).setCell (p := ⟨w1.heap.size, i, none⟩) (by simp; omega) _, (HA4.out.drewN m).set i _, fun j hj => ?_, fun j hj hjd => ?_, fun j => ?_⟩
                    · by_cases hji : j = i
                      · subst hji; simp [HE.out]
                      · simp only [hji, if_false]; exact HF1.out j (by omega)
                    · have hji : j ≠ i := by omega
                      simp only [hji, if_false]; exact HF2.out j (by omega) hjd
                    · by_cases hji : j = i
                      · simp only [hji, if_true]; exact nst_range _ _ _ _ _
                      · simp only [hji, if_false]; exact HR3.out j
                  case measure => simp [intOf]; omega
                · have hei : i + d = ps.length := by omega
                  have HEI := Lib.hid hei; clear hei
                  go_wp2
                  go_roundw
                  case rel => exact ⟨d + 1, f, by omega, by omega, by go_num, HB3.out, HA4.out, fun j hj => HF1.out j (by have := HEI.out; omega), HR3.out⟩
                  case measure => simp [intOf]; omega
            · have hac := HA2.out.cell 0 (by omega)
              have he : g 0 = nv x ps (ps.length - 1) 0 := by
                have e : d = ps.length := by omega
                have := HG.out 0 (by omega)
                rw [e] at this; exact this
              have HE := Lib.hid he; clear he
              go_wp2
              go_ret2
              rw [← HE.out]
              exact ⟨rfl, HBW.out.trans (HB2.out.mono (by omega))⟩

theorem interp_prs (A : Option Addr) (cap : Nat) (ps : List (Int × Int)) (x : Int) (w : World) (hc : Prs w A ps) (h1 : 1 ≤ ps.length) (h16 : ps.length ≤ 16)
    (hcap : ps.length ≤ cap) (hx : elemB x = true) (hall : ∀ p, p ∈ ps → elemB p.1 = true ∧ elemB p.2 = true) (hnd : (ps.map (·.1)).Nodup) :
    Calls Tryz.prog 42 #[.slice A ps.length cap, .int .i64 x] w fun e w' =>
      e = .returned (.tuple #[.int .i64 (nv x ps (ps.length - 1) 0), .int .i64 0]) ∧ Below w.heap.size w w' := by
  obtain ⟨b, off, rfl, hcc⟩ := hc.2 (by omega)
  have hP : Pts w b off ps := fun j p hp => by
    obtain ⟨h1, h2⟩ := flat2_at ps j p hp
    exact ⟨hcc _ _ h1, by rw [Nat.add_assoc]; exact hcc _ _ h2⟩
  obtain ⟨p, hp⟩ := get_some ps 0 (by omega)
  exact interp_any b off cap ps x w (lt_of_cell (hP 0 p hp).1) hP h1 h16 hcap hx hall hnd
end
end

section
open Go.RowKit

theorem selement_any (a : Int) (w : World) :
    Calls Tryz.prog 63 #[.int .i64 a] w fun e w' => e = .returned (.bool (elemB a)) ∧ w = w' := by
  by_cases h0 : 0 ≤ a
  · by_cases h1 : a < 2147483647
    · go_enter Tryz.func63, Tryz.ntmps63
      go_wp2
      go_ret
      exact ⟨by simp [elemB, h0, h1], rfl⟩
    · go_enter Tryz.func63, Tryz.ntmps63
      go_wp2
      go_ret
      exact ⟨by simp [elemB, h0, h1], rfl⟩
  · go_enter Tryz.func63, Tryz.ntmps63
    go_wp2
    go_ret
    exact ⟨by simp [elemB]; omega, rfl⟩

def validB (s : Int × Int) : Bool := decide (1 ≤ s.1) && decide (s.1 ≤ 16) && elemB s.2

theorem valid_any (x y : Int) (w : World) :
    Calls Tryz.prog 50 #[.agg #[.int .i64 x, .int .i64 y]] w fun e w' => e = .returned (.bool (validB (x, y))) ∧ w.alloc (.cells #[.int .i64 x, .int .i64 y] 37) = w' := by
  by_cases h0 : 1 ≤ x
  · by_cases h1 : x ≤ 16
    · go_enter Tryz.func50, Tryz.ntmps50
      go_wp2_with (go_at_call 63; refine (selement_any _ _).mono ?_; rintro e w' ⟨rfl, rfl⟩)
      go_ret
      exact ⟨ret_bool (by simp [validB, h0, h1]), rfl⟩
    · go_enter Tryz.func50, Tryz.ntmps50
      go_wp2
      go_ret
      exact ⟨ret_bool (by simp [validB]; omega), rfl⟩
  · go_enter Tryz.func50, Tryz.ntmps50
    go_wp2
    go_ret
    exact ⟨ret_bool (by simp [validB]; omega), rfl⟩

theorem polyat_any (A : Option Addr) (c : Nat) (xs : List Int) (x : Int) (w : World) (hv : Ints w A xs) (hl : xs.length ≤ 16) (hall : xs.all elemB = true) (hx : elemB x = true) :
    Calls Tryz.prog 64 #[.slice A xs.length c, .int .i64 x] w fun e w' => e = .returned (.tuple #[.int .i64 (evp xs x), .int .i64 0]) ∧ w = w' := by
  have H := Lib.hid (eval_any A c xs x w hv hl hall hx)
  clear hv hall hx
  go_enter Tryz.func64, Tryz.ntmps64
  go_wp2_with fail
  refine H.out.mono ?_
  rintro e w' ⟨rfl, rfl⟩
  go_wp2
  go_ret2
  exact ⟨rfl, rfl⟩

theorem pointsat_any (A : Option Addr) (cap : Nat) (ps : List (Int × Int)) (x : Int) (w : World) (hc : Prs w A ps) (h1 : 1 ≤ ps.length) (h16 : ps.length ≤ 16)
    (hcap : ps.length ≤ cap) (hx : elemB x = true) (hall : ∀ p, p ∈ ps → elemB p.1 = true ∧ elemB p.2 = true) (hnd : (ps.map (·.1)).Nodup) :
    Calls Tryz.prog 76 #[.slice A ps.length cap, .int .i64 x] w fun e w' =>
      e = .returned (.tuple #[.int .i64 (nv x ps (ps.length - 1) 0), .int .i64 0]) ∧ Below w.heap.size w w' := by
  have H := Lib.hid (interp_prs A cap ps x w hc h1 h16 hcap hx hall hnd)
  clear hc hall hx hnd
  go_enter Tryz.func76, Tryz.ntmps76
  go_wp2_with fail
  refine H.out.mono ?_
  rintro e w' ⟨rfl, hb⟩
  go_wp2
  go_ret2
  exact ⟨rfl, hb⟩
end

section
open Go.RowKit

/-- A block of pairs of ints that the call made. -/
def PArr (w : World) (B T n : Nat) (f : Nat → Int × Int) : Prop :=
  ∃ cs : Array Value, w.heap[B]? = some (.cells cs T (0, 0)) ∧ cs.size = n * 2 ∧ ∀ j, j < n → cs[j * 2]? = some (.int .i64 (f j).1) ∧ cs[j * 2 + 1]? = some (.int .i64 (f j).2)

theorem PArr.lt {w : World} {B T n : Nat} {f : Nat → Int × Int} (h : PArr w B T n f) : B < w.heap.size := by
  obtain ⟨cs, h1, _⟩ := h
  exact (Array.getElem?_eq_some_iff.1 h1).1
theorem PArr.cell {w : World} {B T n : Nat} {f : Nat → Int × Int} (h : PArr w B T n f) (j : Nat) (hj : j < n) : w.cell? ⟨B, j * 2, none⟩ = some (.int .i64 (f j).1) ∧ w.cell? ⟨B, j * 2 + 1, none⟩ = some (.int .i64 (f j).2) := by
  obtain ⟨cs, h1, h2, h3⟩ := h
  rw [cell_of_row w B _ cs T (0, 0) h1, cell_of_row w B _ cs T (0, 0) h1]; exact h3 j hj
theorem PArr.frozen {w : World} {B T n : Nat} {f : Nat → Int × Int} (h : PArr w B T n f) (j : Nat) : w.frozen? ⟨B, j, none⟩ = false := by
  obtain ⟨cs, h1, h2, h3⟩ := h
  exact frozen_of_row w B j cs T h1
theorem PArr.grown {w w' : World} {B T n : Nat} {f : Nat → Int × Int} (h : PArr w B T n f) {row : Option Nat} (hg : w.grownBy w' row) (hne : some B ≠ row) : PArr w' B T n f := by
  have hlt := h.lt
  obtain ⟨cs, h1, h2⟩ := h
  exact ⟨cs, (hg.block B hlt hne).trans h1, h2⟩
theorem PArr.below {w w' : World} {B T n : Nat} {f : Nat → Int × Int} (h : PArr w B T n f) (hb : Below w.heap.size w w') : PArr w' B T n f := by
  have hlt := h.lt
  obtain ⟨cs, h1, h2⟩ := h
  exact ⟨cs, (hb.block B hlt).trans h1, h2⟩
theorem PArr.set {w : World} {B T n : Nat} {f : Nat → Int × Int} (h : PArr w B T n f) (i : Nat) (p : Int × Int) :
    PArr ((w.setCell ⟨B, i * 2, none⟩ (.int .i64 p.1)).setCell ⟨B, i * 2 + 1, none⟩ (.int .i64 p.2)) B T n (fun j => if j = i then p else f j) := by
  obtain ⟨cs, h1, h2, h3⟩ := h
  refine ⟨(cs.setIfInBounds (i * 2) (.int .i64 p.1)).setIfInBounds (i * 2 + 1) (.int .i64 p.2), heap_setCell_same _ B _ _ T _ (heap_setCell_same w B _ cs T _ h1), by simpa using h2, fun j hj => ?_⟩
  by_cases hji : j = i
  · subst hji
    constructor
    · rw [Array.getElem?_setIfInBounds_ne (by omega), Array.getElem?_setIfInBounds_self_of_lt (by omega)]; simp
    · rw [Array.getElem?_setIfInBounds_self_of_lt (by simp; omega)]; simp
  · simp only [hji, if_false]
    constructor
    · rw [Array.getElem?_setIfInBounds_ne (by omega), Array.getElem?_setIfInBounds_ne (by omega)]; exact (h3 j hj).1
    · rw [Array.getElem?_setIfInBounds_ne (by omega), Array.getElem?_setIfInBounds_ne (by omega)]; exact (h3 j hj).2

theorem PArr.own {w : World} {B T n base : Nat} {f : Nat → Int × Int} (h : PArr w B T n f) (hb : base ≤ B) (hn : n ≤ maxLen) :
    w.ownsRow base T 2 (.slice (some ⟨B, 0, none⟩) n n) n (flat2 ((List.range n).map f)) := by
  obtain ⟨cs, h1, h2, h3⟩ := h
  refine ⟨by rw [flat2_length]; simp, .inr ⟨B, n, cs, rfl, hb, h1, Nat.le_refl _, hn, h2, ?_⟩⟩
  rw [List.take_of_length_le (by simp [h2])]
  apply List.ext_getElem?
  intro j
  by_cases hj : j < n * 2
  · have hq : j / 2 < n := by omega
    obtain ⟨g1, g2⟩ := h3 (j / 2) hq
    obtain ⟨k1, k2⟩ := flat2_at ((List.range n).map f) (j / 2) (f (j / 2)) (by simp [hq])
    rcases Nat.mod_two_eq_zero_or_one j with hm | hm
    · rw [show j / 2 * 2 = j by omega] at g1 k1
      rw [k1, Array.getElem?_toList, g1]
    · rw [show j / 2 * 2 + 1 = j by omega] at g2 k2
      rw [k2, Array.getElem?_toList, g2]
  · rw [List.getElem?_eq_none (by simp [h2]; omega), List.getElem?_eq_none (by rw [flat2_length]; simp; omega)]

theorem PArr.of_made {w : World} {base T n g : Nat} (h : w.ownsRow base T 2 (.slice (some ⟨g, 0, none⟩) n n) n (madeCells #[.int .i64 0, .int .i64 0] (n * 2)).toList) : PArr w g T n (fun _ => (0, 0)) := by
  obtain ⟨h1, h2⟩ := h
  rcases h2 with ⟨h2, _⟩ | ⟨g', cap, cur, hv, _, hg, hn, _, hs, ht⟩
  · simp at h2
  · simp only [Value.slice.injEq, Option.some.injEq, Addr.mk.injEq, and_true, true_and] at hv
    obtain ⟨rfl, rfl⟩ := hv
    rw [List.take_of_length_le (by simp [hs])] at ht
    have e : cur = madeCells #[.int .i64 0, .int .i64 0] (n * 2) := Array.toList_inj.1 ht
    refine ⟨cur, hg, hs, fun j hj => ?_⟩
    rw [e]
    constructor
    · simp [madeCells, show j * 2 < n * 2 by omega]
    · simp [madeCells, show j * 2 + 1 < n * 2 by omega, show (j * 2 + 1) % 2 = 1 by omega]

theorem own_mono {w : World} {base base' : Nat} {e : TypeId} {size n : Nat} {v : Value} {xs : List Value} (h : w.ownsRow base e size v n xs) (hb : base' ≤ base) : w.ownsRow base' e size v n xs := by
  obtain ⟨h1, h2⟩ := h
  refine ⟨h1, ?_⟩
  rcases h2 with h2 | ⟨g, cap, cur, hv, hg, r⟩
  · exact .inl h2
  · exact .inr ⟨g, cap, cur, hv, Nat.le_trans hb hg, r⟩

theorem info_int : (Tryz.prog.info? 3).map (fun i => (i.zero, i.size, i.bytes)) = some (some (.int .i64 0), 1, 8) := by kernel_rfl
theorem info_share : (Tryz.prog.info? 37).map (fun i => (i.zero, i.size, i.bytes)) = some (some (.agg #[.int .i64 0, .int .i64 0]), 2, 16) := by kernel_rfl

/-- The shares of the polynomial with the coefficients p. -/
def shs (p : List Int) (m : Nat) : List (Int × Int) := (List.range m).map fun (i : Nat) => ((i : Int) + 1, evp p ((i : Int) + 1))

theorem shs_length (p : List Int) (m : Nat) : (shs p m).length = m := by simp [shs]

set_option maxRecDepth 100000 in
set_option maxRecDepth 100000 in
set_option maxHeartbeats 1600000 in
theorem split_any (secret : Int) (n m : Nat) (A : Option Addr) (c : Nat) (random : List Int) (w : World) (hA : Ints w A random) (h1 : 1 ≤ n) (h2 : n ≤ m) (h3 : m ≤ 16) (hn : random.length + 1 ≤ n) (hn' : n ≤ random.length + 1)
    (hall : (secret :: random).all elemB = true) :
    Calls Tryz.prog 40 #[.int .i64 secret, .int .i64 n, .int .i64 m, .slice A random.length c] w fun e w' =>
      ∃ v, e = .returned (.tuple #[v, .int .i64 0]) ∧ w'.ownsRow w.heap.size 37 2 v m (flat2 (shs (secret :: random) m)) ∧ Below w.heap.size w w' := by
  have HA := Lib.hid hA; clear hA
  have HALL := Lib.hid hall; clear hall
  have hmf : ∀ (fn : Fn) (first cap : Array Value) (w : World), (Instr.makeFunc fn first cap).run Tryz.prog w = .ok (.func fn first cap) w := fun _ _ _ _ => rfl
  have hb1 : ((random.length : Int) != (n : Int) - 1) = false := by simp; omega
  have hb2 : ((random.length : Int) == (n : Int) - 1) = true := by simp; omega
  obtain ⟨i0, hi0, hz0, hz1, hz2⟩ := info_parts info_int
  have hown0 := World.ownsRow_lit (base := w.heap.size) (e := 3) (size := 1) w #[Value.int .i64 secret] 1 (Nat.le_refl _) (by simp [maxLen]) rfl
  have HO := Lib.hid hown0; clear hown0
  go_enter Tryz.func40, Tryz.ntmps40
  go_wp2_with (at_builtin; refine wpList_app _ rfl (.tmp 41) (.tmp 42) 96 22 rfl w.heap.size 3 3 i0 (.int .i64 0) 1 8 Tryz.underlying96 Tryz.underlying22 hi0 hz0 hz1 hz2 rfl (by omega) _ 1 _ rfl HO.out A random.length c _ rfl (HA.out.below (below_alloc (Below.refl _ _) _)) (ints_oneCell _ _) (by simp only [maxLen]; omega) (by omega) (by simp) ?_)
  intro v1 w1 hown1 hg1
  obtain ⟨A1, c1, hv1, hc1, hm1, hrd1⟩ := Rd.of_own hown1
  obtain ⟨p, hp⟩ : ∃ p, p = secret :: random := ⟨_, rfl⟩
  have hpl : 1 + random.length = p.length := by rw [hp]; simp; omega
  rw [hpl] at hv1 hrd1
  have hp1 : p.length ≤ 16 := by omega
  subst hv1
  have hI1 : Ints w1 A1 p := by rw [hp] at hrd1 ⊢; exact hrd1
  have hB1 : Below w.heap.size w w1 := (below_alloc (Below.refl _ _) _).grown hg1 (by simp) (by simp [Value.ownBlock])
  clear hown1 hg1 hrd1 hpl
  have HI1 := Lib.hid hI1; clear hI1
  have HB1 := Lib.hid hB1; clear hB1
  rw [← hp] at HALL
  have HP := Lib.hid hp
  clear hp HO HA hn hn' hb1 hb2
  go_wp2_with fail
  go_loop [46] (fun u => ∃ k : Nat, k ≤ p.length ∧ u = .int .i64 k) (fun u => p.length - (intOf u).toNat)
  case atStart => exact ⟨0, Nat.zero_le _, rfl⟩
  case round =>
    obtain ⟨k, hk, rfl⟩ := hrel
    by_cases hlt : k < p.length
    · obtain ⟨x, hx⟩ := get_some p k hlt
      obtain ⟨b, off, rfl, hcell⟩ := HI1.out.at_ hx
      have hex : elemB x = true := List.all_eq_true.1 HALL.out x (List.mem_of_getElem? hx)
      have HEX := Lib.hid hex; clear hex hx
      go_wp2_with fail
      refine (selement_any _ _).mono ?_
      rintro e w' ⟨rfl, rfl⟩
      rw [HEX.out]
      go_wp2
      go_round
      case rel => exact ⟨k + 1, by omega, by go_num⟩
      case measure => simp [intOf]; omega
    · obtain ⟨i1, hi1, hy0, hy1, hy2⟩ := info_parts info_share
      go_wp2_with (at_make; refine wpList_make_full _ rfl (.tmp 56) (.tmp 56) 28 rfl w.heap.size 37 i1 _ 2 Tryz.underlying28 hi1 hy0 hy1 _ _ _ _ m rfl rfl rfl rfl (by rw [hy2]; omega) (by simp only [maxLen]; omega) HB1.out.size ?_)
      intro w2 hown2 hg2
      have hP0 := Lib.hid (PArr.of_made hown2)
      have hB2 := Lib.hid ((Below.refl w1.heap.size w1).grown hg2 (Nat.le_refl _) (by simp))
      clear hown2 hg2
      go_wp2_with fail
      go_loopw [15, 59] (fun _ u59 wr => ∃ (i : Nat) (f : Nat → Int × Int), i ≤ m ∧ u59 = .int .i64 i ∧ Below w1.heap.size w1 wr ∧ PArr wr w1.heap.size 37 m f ∧ (∀ j : Nat, j < i → f j = ((j : Int) + 1, evp p ((j : Int) + 1)))) (fun _ u59 _ => m - (intOf u59).toNat)
      case atStart => exact ⟨0, _, Nat.zero_le _, rfl, hB2.out, hP0.out, by simp⟩
      case round =>
        obtain ⟨i, f, hi, rfl, hB, hP, hf⟩ := hrel
        have HB := Lib.hid hB; clear hB
        have HPA := Lib.hid hP; clear hP
        have HF := Lib.hid hf; clear hf
        by_cases hli : i < m
        · have hc := HPA.out.cell i hli
          have hc1 := hc.1
          have hc2 := hc.2
          have hf1 := HPA.out.frozen (i * 2)
          have hf2 := HPA.out.frozen (i * 2 + 1)
          clear hc
          have hex : elemB ((i : Int) + 1) = true := by rw [elemB_iff]; omega
          have hp := Lib.hid (polyat_any A1 c1 p ((i : Int) + 1) wr (HI1.out.below HB.out) hp1 HALL.out hex)
          clear hex
          go_wp2_with fail
          refine hp.out.mono ?_
          rintro e w' ⟨rfl, rfl⟩
          go_wp2
          go_roundw
          case rel =>
            refine ⟨i + 1, _, by omega, by go_num, ((HB.out).setCell (p := ⟨w1.heap.size, i * 2, none⟩) (Nat.le_refl _) _).setCell (p := ⟨w1.heap.size, i * 2 + 1, none⟩) (Nat.le_refl _) _, HPA.out.set i ((i : Int) + 1, evp p ((i : Int) + 1)), fun j hj => ?_⟩
            by_cases hji : j = i
            · subst hji; simp
            · simp only [hji, if_false]; exact HF.out j (by omega)
          case measure => simp [intOf]; omega
        · have him : i = m := by omega
          have hown := HPA.out.own (Nat.le_refl _) (by simp only [maxLen]; omega)
          have he : (List.range m).map f = shs p m := by
            unfold shs
            apply List.map_congr_left
            intro j hj
            exact HF.out j (by have := List.mem_range.1 hj; omega)
          rw [he] at hown
          have HOWN := Lib.hid hown
          clear hown him he
          go_wp2
          go_ret2
          rw [← HP.out]
          exact ⟨_, rfl, own_mono HOWN.out HB1.out.size, HB1.out.trans (HB.out.mono HB1.out.size)⟩
end

section
open Go.RowKit

set_option maxHeartbeats 2000000 in
theorem rmix (x : UInt64) (w : World) : Calls Tryz.prog 86 #[.int .u64 x.toNat] w fun e w' => e = .returned (.int .u64 (mix64 x).toNat) ∧ w = w' := by
  have hx := x.toNat_lt
  go_enter Tryz.func86, Tryz.ntmps86
  go_wp2
  go_ret
  exact ⟨ret_int (mix_walk x), rfl⟩

theorem or_add (a : UInt64) (c : UInt8) : (((a <<< 8).toNat : Int) + (c.toNat : Int)) = ((a <<< 8 ||| c.toUInt64).toNat : Int) := by
  have hc := c.toNat_lt
  have e : (8 : UInt64).toNat % 64 = 8 := rfl
  have h1 : (a <<< 8).toNat = (a.toNat % 2 ^ 56) <<< 8 := by
    rw [UInt64.toNat_shiftLeft, e, Nat.shiftLeft_eq, Nat.shiftLeft_eq]
    omega
  rw [UInt64.toNat_or, UInt8.toNat_toUInt64, h1, ← Nat.shiftLeft_add_eq_or_of_lt (by simpa using hc)]
  omega
theorem or_zero (a : UInt64) : (a <<< 8 ||| (0 : UInt8).toUInt64) = a <<< 8 := by
  have e : (0 : UInt8).toUInt64 = 0 := rfl
  rw [e, UInt64.or_zero]
theorem pblk_at (t : ByteArray) (k j : Nat) (hj : j < 8) : (pblk t k)[j]? = some (if h : 8 * k + j < t.size then t[8 * k + j] else 0) := by
  unfold pblk
  have hl : (t.data.toList.drop (8 * k)).length = t.size - 8 * k := by rw [List.length_drop]; rfl
  by_cases h : 8 * k + j < t.size
  · rw [dif_pos h, List.getElem?_append_left (by rw [List.length_take, hl]; omega), List.getElem?_take, if_pos hj, List.getElem?_drop]
    exact List.getElem?_eq_getElem (by simpa using h)
  · rw [dif_neg h, List.getElem?_append_right (by rw [List.length_take, hl]; omega), List.getElem?_replicate_of_lt (by rw [List.length_take, hl]; omega)]
theorem ext1 (d : Nat) (h : d < 16) : hexs.extract d (d + 1) = ⟨#[hexd d]⟩ := by
  match d, h with
  | 0, _ => rfl
  | 1, _ => rfl
  | 2, _ => rfl
  | 3, _ => rfl
  | 4, _ => rfl
  | 5, _ => rfl
  | 6, _ => rfl
  | 7, _ => rfl
  | 8, _ => rfl
  | 9, _ => rfl
  | 10, _ => rfl
  | 11, _ => rfl
  | 12, _ => rfl
  | 13, _ => rfl
  | 14, _ => rfl
  | 15, _ => rfl
  | d + 16, h => omega
theorem cons_ba (c : UInt8) (l : List UInt8) : (⟨#[c]⟩ : ByteArray) ++ ⟨l.toArray⟩ = ⟨(c :: l).toArray⟩ := by
  apply ByteArray.ext
  rw [ByteArray.data_append]
  apply Array.toList_inj.1
  simp

set_option maxRecDepth 100000 in
set_option maxHeartbeats 8000000 in
theorem rsum (t : ByteArray) (ht : t.size ≤ 1000000000) (w : World) :
    Calls Tryz.prog 59 #[.string t] w fun e w' => e = .returned (.string (dg t)) ∧ w = w' := by
  obtain ⟨s0, hs0⟩ : ∃ s, 1442695040888963407 ^^^ UInt64.ofNat t.size = s := ⟨_, rfl⟩
  have e0 : bits .xor .u64 1442695040888963407 (t.size : Int) = (s0.toNat : Int) := by
    have h1 := bits_xor_u64 1442695040888963407 (UInt64.ofNat t.size)
    have h2 : ((UInt64.ofNat t.size).toNat : Int) = (t.size : Int) := by
      rw [UInt64.toNat_ofNat']; omega
    rw [h2, hs0] at h1
    exact h1
  have HS0 := Lib.hid hs0
  clear hs0
  go_enter Tryz.func59, Tryz.ntmps59
  go_wp2_with fail
  clear e0
  go_loop [3, 4] (fun u3 u4 => ∃ k : Nat, k ≤ t.size / 8 + 1 ∧ u4 = .int .i64 (8 * k : Nat) ∧ u3 = .int .u64 (absorb s0 t k).toNat) (fun _ u4 => t.size + 8 - (intOf u4).toNat)
  case atStart => exact ⟨0, Nat.zero_le _, rfl, rfl⟩
  case round =>
  obtain ⟨k, hk, rfl, rfl⟩ := hrel
  obtain ⟨st, hst⟩ : ∃ st, absorb s0 t k = st := ⟨_, rfl⟩
  rw [hst]
  have HST := Lib.hid hst
  clear hst
  by_cases hlt : 8 * k ≤ t.size
  · obtain ⟨q, hq⟩ : ∃ q, 8 * k = q := ⟨_, rfl⟩
    have hq1 : q ≤ t.size := by omega
    rw [hq]
    have HQ := Lib.hid hq
    clear hq hlt
    go_wp2_with fail
    go_loop [5, 6] (fun u5 u6 => ∃ j : Nat, j ≤ 8 ∧ u6 = .int .i64 (q + j : Nat) ∧ u5 = .int .u64 (blk64 ((pblk t k).take j)).toNat) (fun _ u6 => q + 8 - (intOf u6).toNat)
    case atStart => exact ⟨0, Nat.zero_le _, rfl, rfl⟩
    case round =>
    obtain ⟨j, hj, rfl, rfl⟩ := hrel
    obtain ⟨n, hn⟩ : ∃ n, blk64 ((pblk t k).take j) = n := ⟨_, rfl⟩
    rw [hn]
    have HN := Lib.hid hn
    clear hn
    obtain ⟨i, hi⟩ : ∃ i, q + j = i := ⟨_, rfl⟩
    rw [hi]
    have hi1 : i ≤ q + 8 := by omega
    by_cases hj8 : j < 8
    · have hi2 : i < q + 8 := by omega
      have hpa := pblk_at t k j hj8
      rw [HQ.out, hi] at hpa
      have HI := Lib.hid hi
      by_cases hin : i < t.size
      · rw [dif_pos hin] at hpa
        have hsn := take_snoc (pblk t k) j _ hpa
        have HSN := Lib.hid hsn
        have e1 : IntKind.u64.wrap ((n.toNat : Int) * 256) = ((n <<< 8).toNat : Int) := shl8_u64 n
        obtain ⟨m, hm⟩ : ∃ m, n <<< 8 = m := ⟨_, rfl⟩
        have hoa := or_add n t[i]
        rw [hm] at e1 hoa
        have hm64 := m.toNat_lt
        have hc8 := t[i].toNat_lt
        have HM := Lib.hid hm
        have HOA := Lib.hid hoa
        clear hm hpa hsn hi hoa
        go_wp2_with fail
        go_round
        case rel => exact ⟨j + 1, by omega, by rw [← HI.out]; go_num, by rw [HSN.out, blk_snoc, HN.out, HM.out, HOA.out, cast_u64]⟩
        case measure => simp [intOf]; omega
      · rw [dif_neg hin] at hpa
        have hsn := take_snoc (pblk t k) j _ hpa
        have HSN := Lib.hid hsn
        have e1 : IntKind.u64.wrap ((n.toNat : Int) * 256) = ((n <<< 8).toNat : Int) := shl8_u64 n
        obtain ⟨m, hm⟩ : ∃ m, n <<< 8 = m := ⟨_, rfl⟩
        rw [hm] at e1
        have hm64 := m.toNat_lt
        have HM := Lib.hid hm
        clear hm hpa hsn hi
        go_wp2_with fail
        go_round
        case rel => exact ⟨j + 1, by omega, by rw [← HI.out]; go_num, by rw [HSN.out, blk_snoc, HN.out, or_zero, HM.out]⟩
        case measure => simp [intOf]; omega
    · have hj88 : j = 8 := by omega
      have HE : Hid (blk64 (pblk t k) = n) := Lib.hid (by rw [← HN.out, List.take_of_length_le (by rw [pblk_len]; omega)])
      have hi8 : i = q + 8 := by omega
      subst hi8
      clear hi hj88
      go_wp2_with fail
      rw [bits_xor_u64]
      refine (rmix _ w).mono ?_
      rintro e w1 ⟨rfl, rfl⟩
      have HMX : Hid (mix64 (st ^^^ n) = absorb s0 t (k + 1)) := Lib.hid (by rw [absorb, HST.out, HE.out])
      rw [HMX.out]
      go_wp2_with fail
      go_round
      case rel => exact ⟨k + 1, by have := HQ.out; omega, by rw [← HQ.out]; go_num, rfl⟩
      case measure => simp [intOf]; omega
  · obtain rfl : k = t.size / 8 + 1 := by omega
    obtain ⟨u, hu⟩ : ∃ u, st.toNat = u := ⟨_, rfl⟩
    have hu64 : u < 18446744073709551616 := by rw [← hu]; exact st.toNat_lt
    have HD : Hid (dg t = ⟨(hexk u 16).toArray⟩) := Lib.hid (by rw [dg, dgs, HS0.out, HST.out, hu])
    rw [hu]
    clear hu
    go_wp2_with fail
    go_loop [3, 7, 8] (fun u3 u7 u8 => ∃ i : Nat, i ≤ 16 ∧ u8 = .int .i64 i ∧ u7 = .string ⟨(hexk u i).toArray⟩ ∧ u3 = .int .u64 ((u / 16 ^ i : Nat) : Int)) (fun _ _ u8 => 16 - (intOf u8).toNat)
    case atStart => exact ⟨0, Nat.zero_le _, rfl, rfl, by simp⟩
    case round =>
    obtain ⟨i, hi, rfl, rfl, rfl⟩ := hrel
    by_cases h16 : i < 16
    · obtain ⟨x, hx⟩ : ∃ x, u / 16 ^ i = x := ⟨_, rfl⟩
      have hx64 : x < 18446744073709551616 := by rw [← hx]; exact Nat.lt_of_le_of_lt (Nat.div_le_self _ _) hu64
      rw [hx]
      obtain ⟨r, hr⟩ : ∃ r, (⟨(hexk u i).toArray⟩ : ByteArray) = r := ⟨_, rfl⟩
      have hrz : r.size ≤ 16 := by rw [← hr]; show (hexk u i).length ≤ 16; rw [hexk_len]; exact hi
      rw [hr]
      obtain ⟨d, hd⟩ : ∃ d, x % 16 = d := ⟨_, rfl⟩
      have hd16 : d < 16 := by omega
      have e1 : (x : Int) % 16 = (d : Int) := by omega
      have HX := Lib.hid hx
      have HR := Lib.hid hr
      have HDD := Lib.hid hd
      clear hx hr hd
      go_wp2_with fail
      go_round
      case rel => exact ⟨i + 1, by omega, by go_num, (show Value.string (hexs.extract d (d + 1) ++ r) = _ by rw [ext1 d hd16, ← HR.out, cons_ba, hexk, HX.out, HDD.out]), by rw [Nat.pow_succ, ← Nat.div_div_eq_div_mul, HX.out]; go_num⟩
      case measure => simp [intOf]; omega
    · obtain rfl : i = 16 := by omega
      go_wp2
      go_ret
      exact ⟨by rw [HD.out]; rfl, rfl⟩
end

section
open Go.RowKit

def tens : ByteArray := ⟨#[48, 49, 50, 51, 52, 53, 54, 55, 56, 57]⟩
theorem ext10 (d : Nat) (h : d < 10) : tens.extract d (d + 1) = ⟨#[UInt8.ofNat (48 + d)]⟩ := by
  match d, h with
  | 0, _ => rfl
  | 1, _ => rfl
  | 2, _ => rfl
  | 3, _ => rfl
  | 4, _ => rfl
  | 5, _ => rfl
  | 6, _ => rfl
  | 7, _ => rfl
  | 8, _ => rfl
  | 9, _ => rfl
  | d + 10, h => omega
/-- What the loop keeps: the digits of n are those of m ahead of r; with m = 0 they are r. -/
def dgt (n m : Nat) (r : List UInt8) : Prop := (0 < m → Go.Lib.decDigits n = Go.Lib.decDigits m ++ r) ∧ (m = 0 → Go.Lib.decDigits n = r)
theorem dgt_start (n : Nat) : dgt n (n / 10) [UInt8.ofNat (48 + n % 10)] := by
  refine ⟨fun h => ?_, fun h => ?_⟩
  · rw [Go.Lib.decDigits, dif_neg (by omega)]
  · rw [Go.Lib.decDigits, dif_pos (by omega), Nat.mod_eq_of_lt (by omega)]
theorem dgt_step {n m : Nat} {r : List UInt8} (hm : 0 < m) (h : dgt n m r) : dgt n (m / 10) (UInt8.ofNat (48 + m % 10) :: r) := by
  have h1 := dgt_start m
  refine ⟨fun hp => ?_, fun hp => ?_⟩
  · rw [h.1 hm, h1.1 hp, List.append_assoc]; rfl
  · rw [h.1 hm, h1.2 hp]; rfl
theorem dgt_len {n m : Nat} {r : List UInt8} (hn : n < 18446744073709551616) (h : dgt n m r) : r.length ≤ 20 := by
  have h1 := dec_len n 19 (by have : (10 : Nat) ^ (19 + 1) = 100000000000000000000 := rfl; omega)
  rcases Nat.eq_zero_or_pos m with h0 | h0
  · rw [← h.2 h0]; exact h1
  · rw [h.1 h0, List.length_append] at h1; omega

set_option maxRecDepth 100000 in
set_option maxHeartbeats 2000000 in
theorem rdigits (n : Nat) (hn : n < 18446744073709551616) (w : World) :
    Calls Tryz.prog 83 #[.int .u64 n] w fun e w' => e = .returned (.string (dec n)) ∧ w = w' := by
  obtain ⟨d, hd⟩ : ∃ d, n % 10 = d := ⟨_, rfl⟩
  have e1 : (n : Int) % 10 = (d : Int) := by omega
  have hd10 : d < 10 := by omega
  have HS := Lib.hid (dgt_start n)
  rw [hd] at HS
  obtain ⟨m, hm⟩ : ∃ m, n / 10 = m := ⟨_, rfl⟩
  have e2 : (n : Int) / 10 = (m : Int) := by omega
  rw [hm] at HS
  have hm64 : m < 18446744073709551616 := by omega
  clear hd hm
  go_enter Tryz.func83, Tryz.ntmps83
  go_wp2_with fail
  clear e1 e2
  go_loop [0, 3] (fun u0 u3 => ∃ (m : Nat) (r : List UInt8), m < 18446744073709551616 ∧ u0 = .int .u64 (m : Int) ∧ u3 = .string ⟨r.toArray⟩ ∧ dgt n m r) (fun u0 _ => (intOf u0).toNat)
  case atStart => exact ⟨m, [UInt8.ofNat (48 + d)], hm64, rfl, (show Value.string (tens.extract d (d + 1)) = _ by rw [ext10 d hd10]), HS.out⟩
  case round =>
  obtain ⟨m, r, hm, rfl, rfl, hg⟩ := hrel
  have HG := Lib.hid hg
  clear hg
  by_cases h0 : 0 < m
  · obtain ⟨d, hd⟩ : ∃ d, m % 10 = d := ⟨_, rfl⟩
    have e1 : (m : Int) % 10 = (d : Int) := by omega
    have hd10 : d < 10 := by omega
    have HS := Lib.hid (dgt_step h0 HG.out)
    rw [hd] at HS
    clear hd
    have hz := dgt_len hn HG.out
    go_wp2_with fail
    go_round
    case rel => exact ⟨m / 10, UInt8.ofNat (48 + d) :: r, by omega, by go_num, (show Value.string (tens.extract d (d + 1) ++ ⟨r.toArray⟩) = _ by rw [ext10 d hd10, cons_ba]), HS.out⟩
    case measure => simp [intOf]; omega
  · obtain rfl : m = 0 := by omega
    have HE := Lib.hid (HG.out.2 rfl)
    go_wp2
    go_ret
    exact ⟨by rw [dec, HE.out]; rfl, rfl⟩

theorem rdecimal (n : Nat) (hn : n ≤ 9223372036854775807) (w : World) :
    Calls Tryz.prog 56 #[.int .i64 n] w fun e w' => e = .returned (.string (dec n)) ∧ w = w' := by
  have HD := Lib.hid (rdigits n (by omega) w)
  have hn0 : (0 : Int) ≤ (n : Int) := by omega
  go_enter Tryz.func56, Tryz.ntmps56
  go_wp2_with fail
  refine HD.out.mono ?_
  rintro e w1 ⟨rfl, rfl⟩
  go_wp2
  go_ret
  exact ⟨rfl, rfl⟩

/-! ### Same -/
end

section
open Go.RowKit

theorem row_below {w w' : World} {B e size n : Nat} {v : Value} {xs : List Value} (h : w.ownsRow B e size v n xs) (hb : Below w.heap.size w w') : w'.ownsRow B e size v n xs := by
  refine ⟨h.1, ?_⟩
  rcases h.2 with hn | ⟨g, cap, cur, rfl, hg, hgg, rest⟩
  · exact .inl hn
  · exact .inr ⟨g, cap, cur, rfl, hg, by rw [hb.block g (Array.getElem?_eq_some_iff.1 hgg).1]; exact hgg, rest⟩
theorem row_own {w : World} {B e size n : Nat} {v : Value} {xs : List Value} (h : w.ownsRow B e size v n xs) : ∀ k, v.ownBlock = some k → B ≤ k := fun k hk => (h.lt k hk).1

theorem conv_row (w : World) (B n : Nat) (v : Value) (l : List UInt8) (h : w.ownsRow B 5 1 v n (Go.Lib.byteCells l)) :
    (convert 54 9 v).run Tryz.prog w = .ok (.string ⟨l.toArray⟩) w := by
  have hn : l.length = n := by have := h.1; rw [Go.Lib.byteCells_length] at this; omega
  rcases h.2 with ⟨rfl, h0⟩ | ⟨g, cap, cur, rfl, hg, hgg, h1, h2, h3, h4⟩
  · have hl : l = [] := List.eq_nil_of_length_eq_zero (by omega)
    subst hl
    exact Go.Lib.run_convert_nil_bytes w _ _ _ _ Tryz.underlying54 Tryz.underlying5 Tryz.underlying9
  · have := run_convert_bytes_back (P := Tryz.prog) w 54 9 5 ⟨g, 0, none⟩ cap l Tryz.underlying54 Tryz.underlying5 Tryz.underlying9 (Go.Lib.bytes_of_row hgg (by rw [hn]; first | exact h4 | simpa using h4))
    rw [hn] at this
    exact this

set_option maxRecDepth 100000 in
set_option maxHeartbeats 8000000 in
theorem rjoined (A : Option Addr) (c : Nat) (l : List ByteArray) (w : World) (h : Strs w A l) (hl : l.length ≤ 30) (hs : ∀ s ∈ l, s.size ≤ 200) :
    Calls Tryz.prog 32 #[.slice A l.length c] w fun e w' => e = .returned (.string ⟨(jn l).toArray⟩) ∧ Below w.heap.size w w' := by
  obtain ⟨i0, hi, hz0, hz1, hz2⟩ := info_parts info_byte
  have HI := Lib.hid (And.intro hi (And.intro hz0 (And.intro hz1 hz2)))
  clear hi hz0 hz1 hz2
  have HH := Lib.hid h
  have HSZ := Lib.hid hs
  have HJ := Lib.hid (jn_few l hs)
  clear h hs
  go_enter Tryz.func32, Tryz.ntmps32
  go_wp2_with fail
  go_loop [3, 4] (fun u3 u4 => ∃ k N : Nat, k ≤ l.length ∧ N ≤ 221 * k ∧ u4 = .int .i64 k ∧ u3 = .int .i64 N) (fun _ u4 => l.length - (intOf u4).toNat)
  case atStart => exact ⟨0, 0, Nat.zero_le _, Nat.zero_le _, rfl, rfl⟩
  case round =>
  obtain ⟨k, N, hk, hN, rfl, rfl⟩ := hrel
  by_cases hlt : k < l.length
  · obtain ⟨s, hs⟩ := get_some l k hlt
    obtain ⟨b, off, rfl, c0⟩ := HH.out.at_ hs
    have hs2 : s.size ≤ 200 := HSZ.out s (List.mem_of_getElem? hs)
    obtain ⟨z, hz⟩ : ∃ z, s.size = z := ⟨_, rfl⟩
    rw [hz] at hs2
    clear hs
    go_wp2_with fail
    go_round
    case rel => exact ⟨k + 1, N + (z + 21), by omega, by omega, by go_num, by go_num⟩
    case measure => simp [intOf]; omega
  · obtain rfl : k = l.length := by omega
    have hN2 : N ≤ 6630 := by omega
    clear hN hk
    go_wp2_with (at_make; refine wpList_make_own _ rfl _ _ 54 rfl w.heap.size 5 i0 (.int .u8 0) 1 Tryz.underlying54 HI.out.1 HI.out.2.1 HI.out.2.2.1 .i64 .i64 _ N rfl rfl rfl (by rw [HI.out.2.2.2]; omega) (by unfold maxLen; omega) (Nat.le_refl _) ?_)
    intro w1 hown hgrow
    have HB1 : Hid (Below w.heap.size w w1) := Lib.hid ((Below.refl _ w).grown hgrow (Nat.le_refl _) (fun j hj => by cases hj))
    have HO1 := Lib.hid hown
    clear hown hgrow
    go_wp2_with fail
    go_loopw [5, 6] (fun u5 u6 wr => ∃ k : Nat, k ≤ l.length ∧ u6 = .int .i64 k ∧ wr.ownsRow w.heap.size 5 1 u5 (jn (l.take k)).length (Go.Lib.byteCells (jn (l.take k))) ∧ Below w.heap.size w wr) (fun _ u6 _ => l.length - (intOf u6).toNat)
    case atStart => exact ⟨0, Nat.zero_le _, rfl, HO1.out, HB1.out⟩
    case round =>
    obtain ⟨k, hk, rfl, hown, hbel⟩ := hrel
    have HOWN := Lib.hid hown
    have HBE := Lib.hid hbel
    clear hown hbel
    by_cases hlt : k < l.length
    · obtain ⟨s, hs⟩ := get_some l k hlt
      obtain ⟨b, off, rfl, c0⟩ := (HH.out.below HBE.out).at_ hs
      have hs2 : s.size ≤ 200 := HSZ.out s (List.mem_of_getElem? hs)
      have hbl : b < wr.heap.size := by
        have := lt_of_cell c0
        simpa using this
      have hsn := jn_snoc hs
      have hle := jn_le l (k + 1)
      have hsz : (jn (l.take k)).length + (Go.Lib.decDigits s.size).length + 1 + s.size ≤ 1000000 := by
        have hj := HJ.out
        rw [hsn] at hle
        simp only [List.length_append, List.length_cons, List.length_nil] at hle
        have : s.data.toList.length = s.size := rfl
        omega
      have HA := Lib.hid hs
      have HSN := Lib.hid hsn
      have HS2 := Lib.hid hsz
      have HBS : Hid (w.heap.size ≤ wr.heap.size) := Lib.hid HBE.out.size
      have HDC := Lib.hid (rdecimal s.size (by omega) wr)
      have hdz : (dec s.size).size = (Go.Lib.decDigits s.size).length := rfl
      have HDZ := Lib.hid hdz
      clear hs hsn hle hsz hdz
      go_wp2_with fail
      refine HDC.out.mono ?_
      rintro e w2 ⟨rfl, rfl⟩
      go_wp2_with (at_builtin; refine Go.Lib.wpList_append_own_string _ rfl _ _ 54 9 rfl w.heap.size 5 i0 Tryz.underlying54 Tryz.underlying9 HI.out.1 HI.out.2.1 HI.out.2.2.1 HI.out.2.2.2 _ _ _ rfl HOWN.out (dec s.size) rfl (by have := HS2.out; rw [HDZ.out]; unfold maxLen; omega) (by have := HS2.out; rw [HDZ.out]; omega) HBS.out ?_)
      intro v1 w1 hown1 hgrow1 _
      have HB1 := Lib.hid (HBE.out.grown hgrow1 HBS.out (row_own HOWN.out))
      have HO1 := Lib.hid hown1
      clear hown1 hgrow1
      go_wp2_with (at_builtin; refine wpList_append_own _ rfl _ _ 54 rfl w.heap.size 5 i0 (.int .u8 0) 1 1 Tryz.underlying54 HI.out.1 HI.out.2.1 HI.out.2.2.1 HI.out.2.2.2 rfl (by decide) _ _ _ rfl (HO1.out.alloc _) ⟨w1.heap.size, 0, none⟩ 1 1 [.int .u8 58] rfl rfl ?c1 ?c2 ?c3 ?c4 ?c5 ?_)
      case c1 =>
        intro j u hj
        match j, hj with
        | 0, hj => simp at hj; subst hj; simp [Addr.add]
      case c2 => intro u hu; simp at hu; subst hu; rfl
      case c3 => have := HS2.out; rw [HDZ.out]; unfold maxLen; omega
      case c4 => have := HS2.out; rw [HDZ.out]; omega
      case c5 => have := HB1.out.size; simp; omega
      intro v2 w2 hown2 hgrow2 _
      have HB2 := Lib.hid ((HB1.out.alloc (by first | exact HB1.out.size | rfl) _).grown hgrow2 (by have := HB1.out.size; simp; omega) (row_own HO1.out))
      have HO2 := Lib.hid hown2
      clear hown2 hgrow2
      obtain ⟨b2, off2, he, c2⟩ := (HH.out.below HB2.out).at_ HA.out
      cases he
      go_wp2_with (at_builtin; refine Go.Lib.wpList_append_own_string _ rfl _ _ 54 9 rfl w.heap.size 5 i0 Tryz.underlying54 Tryz.underlying9 HI.out.1 HI.out.2.1 HI.out.2.2.1 HI.out.2.2.2 _ _ _ rfl HO2.out s rfl (by have := HS2.out; rw [HDZ.out]; unfold maxLen; omega) (by have := HS2.out; rw [HDZ.out]; omega) HB2.out.size ?_)
      intro v3 w3 hown3 hgrow3 _
      have HB3 := Lib.hid (HB2.out.grown hgrow3 HB2.out.size (row_own HO2.out))
      have hfin : w3.ownsRow w.heap.size 5 1 v3 (jn (l.take (k + 1))).length (Go.Lib.byteCells (jn (l.take (k + 1)))) := by
        have e1 : (jn (l.take (k + 1))).length = (jn (l.take k)).length + (dec s.size).size + 1 + s.size := by
          rw [HSN.out, HDZ.out]; simp only [List.length_append, List.length_singleton]; rfl
        have e2 : Go.Lib.byteCells (jn (l.take (k + 1))) = Go.Lib.byteCells (jn (l.take k)) ++ Go.Lib.strCells (dec s.size) ++ [.int .u8 58] ++ Go.Lib.strCells s := by
          rw [HSN.out]; simp [Go.Lib.byteCells, Go.Lib.strCells, dec]
        rw [e1, e2]; simp only [List.append_assoc, List.singleton_append]; exact hown3
      have HF := Lib.hid hfin
      clear hown3 hgrow3 hfin
      go_wp2_with fail
      go_roundw
      case rel => exact ⟨k + 1, by omega, by go_num, HF.out, HB3.out⟩
      case measure => simp [intOf]; omega
    · obtain rfl : k = l.length := by omega
      rw [List.take_length] at HOWN
      have hcv := conv_row _ _ _ _ _ HOWN.out
      go_wp2
      go_ret
      exact ⟨rfl, HBE.out⟩

theorem rlist (A : Option Addr) (c : Nat) (l : List ByteArray) (w : World) (h : Strs w A l) (hl : l.length ≤ 30) (hs : ∀ s ∈ l, s.size ≤ 200) :
    Calls Tryz.prog 61 #[.slice A l.length c] w fun e w' => e = .returned (.string (dg ⟨(jn l).toArray⟩)) ∧ Below w.heap.size w w' := by
  have HJ := Lib.hid (rjoined A c l w h hl hs)
  have hz : (⟨(jn l).toArray⟩ : ByteArray).size ≤ 1000000000 := by
    have := jn_few l hs
    show (jn l).length ≤ _
    omega
  have HS : Hid (∀ w', Calls Tryz.prog 59 #[.string ⟨(jn l).toArray⟩] w' fun e w'' => e = .returned (.string (dg ⟨(jn l).toArray⟩)) ∧ w' = w'') := Lib.hid (fun w' => rsum _ hz w')
  clear h hs hz
  obtain ⟨t, ht⟩ : ∃ t, (⟨(jn l).toArray⟩ : ByteArray) = t := ⟨_, rfl⟩
  rw [ht] at HJ HS ⊢
  clear ht
  go_enter Tryz.func61, Tryz.ntmps61
  go_wp2_with fail
  refine HJ.out.mono ?_
  rintro e w1 ⟨rfl, hb1⟩
  have HB1 := Lib.hid hb1
  clear hb1
  go_wp2_with fail
  refine (HS.out w1).mono ?_
  rintro e w2 ⟨rfl, rfl⟩
  go_wp2
  go_ret
  exact ⟨rfl, HB1.out⟩
end

section
open Go.RowKit

set_option maxHeartbeats 4000000 in
theorem offset1 (s i g : Nat) (hs : s < 2147483647) (hi : i ≤ 1000) (w : World) (hc : w.cell? ⟨g, 0, none⟩ = some (.int .i64 s)) (hT : Tabs w) :
    Calls Tryz.prog 87 #[.int .i64 i, .pointer (some ⟨g, 0, none⟩)] w fun e w' => e = .returned (.int .i64 ((offN s i : Nat) : Int)) ∧ Below w.heap.size w w' := by
  have HT : Hid (∀ W, Below w.heap.size w W → Tabs W) := Lib.hid (fun W hW => hT.below hW)
  have H1 := Lib.hid (itoa_any s (by omega) w hT)
  have H2 : Hid (∀ W, Below w.heap.size w W → _) := Lib.hid (fun W hW => itoa_any i (by omega) W (HT.out W hW))
  have hlen : (jn [bBlind, dec s, dec i]).length ≤ 1000000 := by
    have a1 := dec_len s 9 (by omega)
    have a2 := dec_len i 9 (by omega)
    have b1 := dec_len (dec s).size 9 (by have : (dec s).size = (Go.Lib.decDigits s).length := rfl; omega)
    have b2 := dec_len (dec i).size 9 (by have : (dec i).size = (Go.Lib.decDigits i).length := rfl; omega)
    have c1 : (dec s).data.toList.length = (Go.Lib.decDigits s).length := by simp [dec]
    have c2 : (dec i).data.toList.length = (Go.Lib.decDigits i).length := by simp [dec]
    have c3 : (jn [bBlind, dec s, dec i]).length = 7 + ((Go.Lib.decDigits (dec s).size).length + 1 + (Go.Lib.decDigits s).length) + ((Go.Lib.decDigits (dec i).size).length + 1 + (Go.Lib.decDigits i).length) := by
      rw [jn_cons, jn_cons, jn_cons]
      simp only [List.length_append, List.length_cons, c1, c2]
      have : (Go.Lib.decDigits bBlind.size).length = 1 := by
        show (Go.Lib.decDigits 5).length = 1
        rw [Go.Lib.decDigits]; rfl
      have e : bBlind.data.toList.length = 5 := by decide
      have e0 : (jn []).length = 0 := rfl
      omega
    omega
  have H3 : Hid (∀ (W : World), Below w.heap.size w W → Calls Tryz.prog 79 #[.slice (some ⟨W.heap.size, 0, none⟩) 3 3] (W.alloc (.cells #[.string ⟨#[98, 108, 105, 110, 100]⟩, .string (dec s), .string (dec i)] 9)) fun e w' => e = .returned (.string ⟨(hexk (dgs (blindT s i)).toNat 16).toArray⟩) ∧ Below W.heap.size W w') := Lib.hid (fun W hW => by
    have := list_any (some ⟨W.heap.size, 0, none⟩) 3 [bBlind, dec s, dec i] (W.alloc (.cells #[.string ⟨#[98, 108, 105, 110, 100]⟩, .string (dec s), .string (dec i)] 9)) (Strs_new _ _ _ _ _ rfl rfl) (HT.out _ (below_alloc hW _)) hlen (by simp)
    exact this.mono fun _ _ ⟨he, hb⟩ => ⟨he, below_trans (below_alloc (Below.refl _ _) _) hb⟩)
  have hd := (dgs (blindT s i)).toNat_lt
  have hoff : offN s i = (dgs (blindT s i)).toNat % 1000003 := rfl
  rw [hoff]
  generalize (dgs (blindT s i)).toNat = u at *
  have H4 : Hid (∀ (W : World), _) := Lib.hid (fun W => parse_any u (by omega) W)
  generalize dec s = ds at *
  generalize dec i = di at *
  have hr1 : ((u % 1000003 : Nat) : Int) = (u : Int) % 1000003 := by omega
  have hr2 : IntKind.i64.wrap ((u : Int) % 1000003) = (u : Int) % 1000003 := by rw [IntWalk.i64_in _ (by omega)]
  have HR1 := Lib.hid hr1
  have hcl := lt_of_cell hc
  clear hT hlen hd hoff hr1
  go_enter Tryz.func87, Tryz.ntmps87
  go_wp2_with fail
  refine (H1.out).mono ?_
  rintro e w1 ⟨rfl, hb⟩
  have HB1 := Lib.hid hb
  clear hb
  go_wp2_with fail
  refine (H2.out w1 HB1.out).mono ?_
  rintro e w2 ⟨rfl, hb⟩
  have HB2 := Lib.hid (below_trans HB1.out hb)
  clear hb
  go_wp2_with fail
  refine (H3.out w2 HB2.out).mono ?_
  rintro e w3 ⟨rfl, hb⟩
  have HB3 := Lib.hid (below_trans HB2.out hb)
  clear hb
  go_wp2_with fail
  refine (H4.out w3).mono ?_
  rintro e w4 ⟨rfl, hb⟩
  have HB4 := Lib.hid (below_trans HB3.out hb)
  clear hb
  go_wp2
  go_ret
  exact ⟨ret_int (by rw [HR1.out]), HB4.out⟩
theorem offsets_any (s : Int) (w : World) : Calls Tryz.prog 62 #[.int .i64 s] w fun e w' => e = .returned (.func (.func 87) #[] #[.pointer (some ⟨w.heap.size, 0, none⟩)]) ∧ w.alloc (.cells #[.int .i64 s] 3) = w' := by
  have hmf : ∀ (fn : Fn) (first cap : Array Value) (w : World), (Instr.makeFunc fn first cap).run Tryz.prog w = .ok (.func fn first cap) w := fun _ _ _ _ => rfl
  go_enter Tryz.func62, Tryz.ntmps62
  go_wp2
  go_ret
  exact ⟨rfl, rfl⟩

def mvR (most : Int) (v : Int) : Bool := decide (-1000000000 ≤ v) && decide (v ≤ most)
def mvOk (l : List Int) (secret most : Int) : Bool := decide (l.length ≤ 1000) && elemB secret && l.all (mvR most)
def mvA (l : List Int) (s : Nat) (sign : Int) : List Int := l.mapIdx fun i v => v + sign * (offN s i : Int)
def mvL (l : List Int) (secret most sign : Int) : List Int := if mvOk l secret most then mvA l secret.toNat sign else []
theorem mvA_length (l : List Int) (s : Nat) (sign : Int) : (mvA l s sign).length = l.length := by simp [mvA]
theorem mvA_get {l : List Int} {i : Nat} {x : Int} (s : Nat) (sign : Int) (h : l[i]? = some x) : (mvA l s sign)[i]? = some (x + sign * (offN s i : Int)) := by simp [mvA, h]

set_option maxRecDepth 100000 in
set_option maxHeartbeats 16000000 in
theorem moved_any (A : Option Addr) (c : Nat) (l : List Int) (secret most sign : Int) (w : World) (hA : Ints w A l) (hmax : l.length ≤ 9223372036854775807) (hT : Tabs w) (hmost : -1000000000 ≤ most ∧ most ≤ 2000000000) (hsign : sign = 1 ∨ sign = -1) :
    Calls Tryz.prog 39 #[.slice A l.length c, .int .i64 secret, .int .i64 most, .int .i64 sign] w fun e w' =>
      ∃ v, e = .returned (.tuple #[v, .int .i64 (if mvOk l secret most then 0 else 1)]) ∧ w'.ownsRow w.heap.size 3 1 v (mvL l secret most sign).length ((mvL l secret most sign).map (Value.int .i64)) ∧ Below w.heap.size w w' := by
  have hsg : -1 ≤ sign ∧ sign ≤ 1 := by omega
  obtain ⟨hsg1, hsg2⟩ := hsg
  obtain ⟨hm1, hm2⟩ := hmost
  clear hsign
  by_cases h1 : 1000 < l.length
  case pos =>
    have e : mvOk l secret most = false := by unfold mvOk; rw [decide_eq_false (by omega)]; rfl
    unfold mvL
    rw [e]
    have hi : (1000 : Int) < (l.length : Int) := by omega
    clear hA hT e
    go_enter Tryz.func39, Tryz.ntmps39
    go_wp2
    go_ret2
    exact ⟨_, rfl, ⟨rfl, .inl ⟨rfl, rfl⟩⟩, Below.refl _ _⟩
  case neg =>
  have d1 : decide (1000 < l.length) = false := decide_eq_false h1
  have d1' : decide ((1000 : Int) < (l.length : Int)) = false := decide_eq_false (by omega)
  by_cases h2 : elemB secret = true
  case neg =>
    have e : mvOk l secret most = false := by unfold mvOk; rw [Bool.eq_false_iff.2 h2]; simp
    unfold mvL
    rw [e]
    have hs : secret < 0 ∨ 2147483647 ≤ secret := by rw [elemB_iff] at h2; omega
    clear hA hT e h2
    by_cases h0 : secret < 0
    · have d2 : decide (secret < 0) = true := decide_eq_true h0
      go_enter Tryz.func39, Tryz.ntmps39
      go_wp2
      go_ret2
      exact ⟨_, rfl, ⟨rfl, .inl ⟨rfl, rfl⟩⟩, Below.refl _ _⟩
    · have h3 : 2147483647 ≤ secret := by omega
      have d2 : decide (secret < 0) = false := decide_eq_false h0
      have d3 : decide (2147483647 ≤ secret) = true := decide_eq_true h3
      go_enter Tryz.func39, Tryz.ntmps39
      go_wp2
      go_ret2
      exact ⟨_, rfl, ⟨rfl, .inl ⟨rfl, rfl⟩⟩, Below.refl _ _⟩
  case pos =>
  obtain ⟨s0, s1⟩ := (elemB_iff secret).1 h2
  obtain ⟨s, rfl⟩ : ∃ s : Nat, secret = (s : Int) := ⟨secret.toNat, by omega⟩
  obtain ⟨v, hv⟩ : ∃ v, l.all (mvR most) = v := ⟨_, rfl⟩
  have hok : mvOk l (s : Int) most = v := by unfold mvOk; rw [hv, h2, decide_eq_true (by omega)]; rfl
  have hlv : mvL l (s : Int) most sign = if v then mvA l s sign else [] := by unfold mvL; rw [hok, Int.toNat_natCast]
  rw [hok, hlv]
  have HV := Lib.hid hv
  have HA := Lib.hid hA
  have d2 : decide ((s : Int) < 0) = false := decide_eq_false (by omega)
  have d3 : decide (2147483647 ≤ (s : Int)) = false := decide_eq_false (by omega)
  obtain ⟨i0, hi0, hz0, hz1, hz2⟩ := info_parts info_int
  have HI := Lib.hid (And.intro hi0 (And.intro hz0 (And.intro hz1 hz2)))
  have HO1 : Hid (∀ (i g : Nat) (W : World), i ≤ 1000 → W.cell? ⟨g, 0, none⟩ = some (.int .i64 s) → Below w.heap.size w W → _) := Lib.hid (fun i g W hi hc hW => offset1 s i g (by omega) hi W hc (hT.below hW))
  have hml := mvA_length l s sign
  have HMG : Hid (∀ (i : Nat) (x : Int), l[i]? = some x → (mvA l s sign)[i]? = some (x + sign * (offN s i : Int))) := Lib.hid (fun i x h => mvA_get s sign h)
  generalize mvA l s sign = res at *
  clear hv hA hT hok hlv hi0 hz0 hz1 hz2 h2
  go_enter Tryz.func39, Tryz.ntmps39
  go_wp2_with fail
  refine (offsets_any (s : Int) w).mono ?_
  rintro e _ ⟨rfl, rfl⟩
  obtain ⟨w1, hw1⟩ : ∃ w1, w.alloc (.cells #[.int .i64 (s : Int)] 3) = w1 := ⟨_, rfl⟩
  have HC1 : Hid (w1.cell? ⟨w.heap.size, 0, none⟩ = some (.int .i64 s)) := Lib.hid (by rw [← hw1, World.cell?_alloc_at _ _ _ _ rfl]; rfl)
  have HB1 : Hid (Below w.heap.size w w1) := Lib.hid (by rw [← hw1]; exact below_alloc (Below.refl _ _) _)
  have HG1 : Hid (w.heap.size < w1.heap.size) := Lib.hid (by rw [← hw1]; simp)
  rw [hw1]
  clear hw1
  go_wp2_with (at_make; refine wpList_make_full _ rfl (.tmp 27) (.tmp 27) 22 rfl w1.heap.size 3 i0 _ 1 Tryz.underlying22 HI.out.1 HI.out.2.1 HI.out.2.2.1 _ _ _ _ l.length rfl rfl rfl rfl (by rw [HI.out.2.2.2]; omega) (by simp only [maxLen]; omega) (Nat.le_refl _) ?_)
  intro w2 hown2 hg2
  have HP0 := Lib.hid (IArr.of_made hown2)
  have HB2 := Lib.hid ((Below.refl w1.heap.size w1).grown hg2 (Nat.le_refl _) (by simp))
  clear hown2 hg2
  go_wp2_with fail
  go_loopw [12, 31] (fun _ u31 wr => ∃ (i : Nat) (r : List Int), i ≤ l.length ∧ u31 = .int .i64 i ∧ Below w1.heap.size w1 wr ∧ IArr wr w1.heap.size 3 r ∧ r.length = l.length ∧ r.take i = res.take i ∧ (l.take i).all (mvR most) = true) (fun _ u31 _ => l.length - (intOf u31).toNat)
  case atStart => exact ⟨0, _, Nat.zero_le _, rfl, HB2.out, HP0.out, by simp, by simp, rfl⟩
  case round =>
  obtain ⟨i, r, hi, rfl, hb, hP, hrl, hr, hall⟩ := hrel
  have HB := Lib.hid hb
  have HPA := Lib.hid hP
  have HR := Lib.hid hr
  have HRL := Lib.hid hrl
  have HALL := Lib.hid hall
  clear hb hP hr hall hrl
  by_cases hlt : i < l.length
  case pos =>
    obtain ⟨x, hx⟩ := get_some l i hlt
    have HX := Lib.hid hx
    clear hx
    obtain ⟨b, off, rfl, hcx⟩ := HA.out.at_ HX.out
    have HCX : Hid (∀ W, Below w.heap.size w W → W.cell? ⟨b, off + i, none⟩ = some (.int .i64 x)) := Lib.hid (fun W hW => kept_cell hW hcx)
    have HBW := Lib.hid (below_trans HB1.out HB.out)
    have hcw := HCX.out wr HBW.out
    have hcl := lt_of_cell hcw
    clear hcx
    cases hvx : mvR most x
    case false =>
      have hvf : v = false := by rw [← HV.out]; exact all_false_of (mvR most) l i x HX.out hvx
      subst hvf
      have hor : x < -1000000000 ∨ most < x := by
        have := hvx
        simp only [mvR, Bool.and_eq_false_iff, decide_eq_false_iff_not] at this
        omega
      clear hvx
      by_cases hx1 : x < -1000000000
      · have e1 : decide (x < -1000000000) = true := decide_eq_true hx1
        clear hor hx1 hm1 hm2 hsg1 hsg2
        repeat (first | go_values | go_skip | go_guarded | go_step | go_upon)
        go_ret2
        exact ⟨_, rfl, ⟨rfl, .inl ⟨rfl, rfl⟩⟩, HBW.out⟩
      · have e1 : decide (x < -1000000000) = false := decide_eq_false hx1
        have hx2 : most < x := by omega
        have e2 : decide (most < x) = true := decide_eq_true hx2
        clear hor
        go_wp2
        go_ret2
        exact ⟨_, rfl, ⟨rfl, .inl ⟨rfl, rfl⟩⟩, HBW.out⟩
    case true =>
    have HVX := Lib.hid hvx
    have hxr : -1000000000 ≤ x ∧ x ≤ most := by
      have := hvx
      simp only [mvR, Bool.and_eq_true, decide_eq_true_eq] at this
      exact this
    obtain ⟨hx1, hx2⟩ := hxr
    have e1 : decide (x < -1000000000) = false := decide_eq_false (by omega)
    have e2 : decide (most < x) = false := decide_eq_false (by omega)
    have hol := offN_lt s i
    have HNEW := Lib.hid (HMG.out i x HX.out)
    obtain ⟨y, hy⟩ : ∃ y, r[i]? = some y := get_some r i (by have := HRL.out; omega)
    have HY := Lib.hid hy
    have HCALL : Hid (∀ W, Below wr.heap.size wr W → Calls Tryz.prog 87 #[.int .i64 i, .pointer (some ⟨w.heap.size, 0, none⟩)] W fun e w' => e = .returned (.int .i64 ((offN s i : Nat) : Int)) ∧ Below W.heap.size W w') := Lib.hid (fun W hW => HO1.out i _ W (by omega) (kept_cell (below_trans HB.out hW) HC1.out) (below_trans HBW.out hW))
    clear hvx hy
    generalize offN s i = d at *
    have hpr : -1000003 < sign * (d : Int) ∧ sign * (d : Int) < 1000003 := by
      rcases (by omega : sign = -1 ∨ sign = 0 ∨ sign = 1) with h | h | h <;> rw [h] <;> omega
    obtain ⟨hp1, hp2⟩ := hpr
    have hw1 : IntKind.i64.wrap (sign * (d : Int)) = sign * (d : Int) := by rw [IntWalk.i64_in _ (by omega)]
    have hw2 : IntKind.i64.wrap (x + sign * (d : Int)) = x + sign * (d : Int) := by rw [IntWalk.i64_in _ (by omega)]
    clear hp1 hp2 hx1 hx2 hm1 hm2 hsg1 hsg2
    repeat (first | go_values | go_skip | go_guarded | go_step | go_upon)
    refine wp_region_held_drew (S := fun W => Below w.heap.size w W) (by kernel_rfl) (HBW.out.drew) (fun hS0 => ?_)
    refine wpAnyH_take (i := 0) (v := ?_) rfl (by kernel_rfl) (by kernel_rfl) (by kernel_rfl) (fun _ _ _ h => h) (Or.inl ⟨by kernel_rfl, ?hy⟩) hS0 ?rest
    case hy => (intro W hSw; clear hSw; go_simp; try with_reducible rfl)
    case rest =>
    refine wpAnyH_take (i := 1) (v := ?_) rfl (by kernel_rfl) (by kernel_rfl) (by kernel_rfl) (fun _ _ _ h => h) (Or.inl ⟨by kernel_rfl, ?hy⟩) hS0 ?rest
    case hy => (intro W hSw; clear hSw; go_simp; try with_reducible rfl)
    case rest =>
    refine wpAnyH_take (i := 2) (v := ?_) rfl (by kernel_rfl) (by kernel_rfl) (by kernel_rfl) (fun _ _ _ h => h) (Or.inl ⟨by kernel_rfl, ?hy⟩) hS0 ?rest
    case hy => (intro W hSw; clear hSw; go_simp; try with_reducible rfl)
    case rest =>
    refine wpAnyH_take (i := 3) (v := ?_) rfl (by kernel_rfl) (by kernel_rfl) (by kernel_rfl) (fun _ _ _ h => h) (Or.inl ⟨by kernel_rfl, ?hy⟩) hS0 ?rest
    case hy => (intro W hSw; clear hSw; go_simp; try with_reducible rfl)
    case rest =>
    refine wpAnyH_take (i := 4) (v := ?_) rfl (by kernel_rfl) (by kernel_rfl) (by kernel_rfl) (fun _ _ _ h => h) (Or.inl ⟨by kernel_rfl, ?hy⟩) hS0 ?rest
    case hy => (intro W hSw; clear hSw; go_simp; try with_reducible rfl)
    case rest =>
    refine wpAnyH_take (i := 5) (v := ?_) rfl (by kernel_rfl) (by kernel_rfl) (by kernel_rfl) (fun _ _ _ h => h) (Or.inl ⟨by kernel_rfl, ?hy⟩) hS0 ?rest
    case hy => (intro W hSw; have q := HCX.out W hSw; have ql := lt_of_cell q; clear hSw; go_simp; try with_reducible rfl)
    case rest =>
    refine wpAnyH_take (i := 6) (v := ?_) rfl (by kernel_rfl) (by kernel_rfl) (by kernel_rfl) (fun _ _ _ h => h) (Or.inl ⟨by kernel_rfl, ?hy⟩) hS0 ?rest
    case hy => (intro W hSw; clear hSw; go_simp; try with_reducible rfl)
    case rest =>
    refine wpAnyH_take (i := 7) (v := ?_) rfl (by kernel_rfl) (by kernel_rfl) (by kernel_rfl) (fun _ _ _ h => h) (Or.inl ⟨by kernel_rfl, ?hy⟩) hS0 ?rest
    case hy => (intro W hSw; clear hSw; go_simp; try with_reducible rfl)
    case rest =>
    refine wpAnyH_take (i := 8) (v := ?_) rfl (by kernel_rfl) (by kernel_rfl) (by kernel_rfl) (fun _ _ _ h => h) (Or.inl ⟨by kernel_rfl, ?hy⟩) hS0 ?rest
    case hy => (intro W hSw; clear hSw; go_simp; try with_reducible rfl)
    case rest =>
    refine wpAnyH_ready (rs := [9]) (by kernel_rfl) (by simp) ?_
    refine AllReadyH.cons rfl (fun K hK => ?_) (AllReadyH.nil)
    go_simp
    refine (HCALL.out _ (Below.refl _ _).drew).mono ?_
    rintro e W1 ⟨rfl, hb1⟩
    have HW1 : Hid (Below wr.heap.size wr W1) := Lib.hid (below_trans (Below.refl _ _).drew hb1)
    have HPB : Hid (IArr W1 w1.heap.size 3 r) := Lib.hid ((HPA.out.kept rfl : IArr wr.drew w1.heap.size 3 r).below hb1)
    clear hb1
    go_simp
    refine hK.out _ _ (below_trans HBW.out HW1.out) (fun hS1 => ?_)
    clear hK K
    refine wpAnyH_take (i := 10) (v := ?_) rfl (by kernel_rfl) (by kernel_rfl) (by kernel_rfl) (fun _ _ _ h => h) (Or.inl ⟨by kernel_rfl, ?hy⟩) hS1 ?rest
    case hy => (intro W hSw; clear hSw; go_simp; try with_reducible rfl)
    case rest =>
    refine wpAnyH_take (i := 11) (v := ?_) rfl (by kernel_rfl) (by kernel_rfl) (by kernel_rfl) (fun _ _ _ h => h) (Or.inl ⟨by kernel_rfl, ?hy⟩) hS1 ?rest
    case hy => (intro W hSw; clear hSw; go_simp; try with_reducible rfl)
    case rest =>
    refine wpAnyH_take (i := 12) (v := ?_) rfl (by kernel_rfl) (by kernel_rfl) (by kernel_rfl) (fun _ _ _ h => h) (Or.inl ⟨by kernel_rfl, ?hy⟩) hS1 ?rest
    case hy => (intro W hSw; clear hSw; go_simp; try with_reducible rfl)
    case rest =>
    refine wpAnyH_ready (rs := [13]) (by kernel_rfl) (by simp) ?_
    refine AllReadyH.cons rfl (fun K hK => ?_) (AllReadyH.nil)
    have c1 := HPB.out.cell i y HY.out
    have c2 := HPB.out.frozen i
    have c3 := HPB.out.lt
    have hS2 : Below w.heap.size w (W1.setCell ⟨w1.heap.size, i, none⟩ (.int .i64 (x + sign * (d : Int)))) := (below_trans HBW.out HW1.out).setCell (by have := HB1.out.size; simpa using this) _
    go_simp
    refine hK.out _ _ hS2 (fun hS3 => ?_)
    clear hK K c1 c2 c3
    refine wpAnyH_done (by kernel_rfl) ?_ _
    clear hS0 hS1 hS2 hS3
    go_wp2
    go_roundw
    case rel => exact ⟨i + 1, _, by omega, by go_num, (below_trans HB.out HW1.out).setCell (Nat.le_refl _) _, HPB.out.set i (x + sign * (d : Int)), by rw [List.length_set]; exact HRL.out, set_take_succ HR.out (by have := HRL.out; omega) HNEW.out, by rw [all_take_succ _ _ _ _ HX.out, HALL.out, HVX.out]; rfl⟩
    case measure => simp [intOf]; omega
  case neg =>
  obtain rfl : i = l.length := by omega
  have hvt : v = true := by rw [← HV.out]; have := HALL.out; rwa [List.take_length] at this
  subst hvt
  have hrr : r = res := by
    have := HR.out
    rwa [List.take_of_length_le (by have := HRL.out; omega), List.take_of_length_le (by omega)] at this
  have HOWN := Lib.hid (HPA.out.own (base := w1.heap.size) (Nat.le_refl _) (by simp only [maxLen]; have := HRL.out; omega))
  have HRR := Lib.hid hrr
  clear hrr
  go_wp2
  go_ret2
  have := own_mono HOWN.out HB1.out.size
  rw [HRL.out] at this
  have hrr := HRR.out
  subst hrr
  exact ⟨_, rfl, this, below_trans HB1.out HB.out⟩
def blL (l : List Int) (secret : Int) : List Int := mvL l secret 1000000000 1
def unL (l : List Int) (secret : Int) : List Int := mvL l secret 1001000002 (-1)
theorem blind_any (A : Option Addr) (c : Nat) (l : List Int) (secret : Int) (w : World) (hA : Ints w A l) (hmax : l.length ≤ 9223372036854775807) (hT : Tabs w) :
    Calls Tryz.prog 9 #[.slice A l.length c, .int .i64 secret] w fun e w' =>
      ∃ v, e = .returned (.tuple #[v, .int .i64 (if mvOk l secret 1000000000 then 0 else 1)]) ∧ w'.ownsRow w.heap.size 3 1 v (blL l secret).length ((blL l secret).map (Value.int .i64)) ∧ Below w.heap.size w w' := by
  have H := Lib.hid (moved_any A c l secret 1000000000 1 w hA hmax hT ⟨by omega, by omega⟩ (.inl rfl))
  unfold blL
  clear hA hT
  generalize (if mvOk l secret 1000000000 then (0 : Int) else 1) = er at *
  generalize mvL l secret 1000000000 1 = R at *
  go_enter Tryz.func9, Tryz.ntmps9
  go_wp2_with fail
  refine H.out.mono ?_
  rintro e w1 ⟨v, rfl, ho, hb⟩
  have HO := Lib.hid ho
  have HB := Lib.hid hb
  clear ho hb
  go_wp2
  go_ret2
  exact ⟨_, rfl, HO.out, HB.out⟩
theorem unblind_any (A : Option Addr) (c : Nat) (l : List Int) (secret : Int) (w : World) (hA : Ints w A l) (hmax : l.length ≤ 9223372036854775807) (hT : Tabs w) :
    Calls Tryz.prog 13 #[.slice A l.length c, .int .i64 secret] w fun e w' =>
      ∃ v, e = .returned (.tuple #[v, .int .i64 (if mvOk l secret 1001000002 then 0 else 1)]) ∧ w'.ownsRow w.heap.size 3 1 v (unL l secret).length ((unL l secret).map (Value.int .i64)) ∧ Below w.heap.size w w' := by
  have H := Lib.hid (moved_any A c l secret 1001000002 (-1) w hA hmax hT ⟨by omega, by omega⟩ (.inr rfl))
  unfold unL
  clear hA hT
  generalize (if mvOk l secret 1001000002 then (0 : Int) else 1) = er at *
  generalize mvL l secret 1001000002 (-1) = R at *
  go_enter Tryz.func13, Tryz.ntmps13
  go_wp2_with fail
  refine H.out.mono ?_
  rintro e w1 ⟨v, rfl, ho, hb⟩
  have HO := Lib.hid ho
  have HB := Lib.hid hb
  clear ho hb
  go_wp2
  go_ret2
  exact ⟨_, rfl, HO.out, HB.out⟩
end

section
open Go.RowKit

/-! ### plain: how often a place occurs -/
def cnt (l : List (Int × Int)) (k : Nat) (j : Nat) : Int := ((l.take k).map (·.1)).count (j : Int)

theorem cnt_zero (l : List (Int × Int)) (j : Nat) : cnt l 0 j = 0 := by simp [cnt]

theorem cnt_succ (l : List (Int × Int)) (k : Nat) (s : Int × Int) (hs : l[k]? = some s) (j : Nat) : cnt l (k + 1) j = cnt l k j + if (j : Int) = s.1 then 1 else 0 := by
  unfold cnt
  rw [take_snoc l k s hs, List.map_append, List.count_append]
  by_cases h : (j : Int) = s.1
  · simp [h]
  · have : ¬ s.1 = (j : Int) := fun e => h e.symm
    simp [h, this]

theorem cnt_le (l : List (Int × Int)) (k j : Nat) : 0 ≤ cnt l k j ∧ cnt l k j ≤ k := by
  unfold cnt
  have h1 := List.count_le_length (a := (j : Int)) (l := (l.take k).map (·.1))
  have h2 := List.length_take_le k l
  rw [List.length_map] at h1
  omega

theorem validB_iff (s : Int × Int) : validB s = true ↔ 1 ≤ s.1 ∧ s.1 ≤ 16 ∧ elemB s.2 = true := by
  simp [validB, and_assoc]

theorem nodup_of_cnt (l : List (Int × Int)) (hv : l.all validB = true) (h : ∀ j : Nat, j < 17 → cnt l l.length j ≤ 1) : (l.map (·.1)).Nodup := by
  rw [List.nodup_iff_count]
  intro a
  by_cases hm : a ∈ l.map (·.1)
  · obtain ⟨s, hs, rfl⟩ := List.mem_map.1 hm
    have := (validB_iff s).1 (List.all_eq_true.1 hv s hs)
    have h1 := h s.1.toNat (by omega)
    unfold cnt at h1
    rw [List.take_length, show ((s.1.toNat : Nat) : Int) = s.1 by omega] at h1
    omega
  · rw [List.count_eq_zero_of_not_mem hm]; omega

theorem dup_of_cnt (l : List (Int × Int)) (j : Nat) (h : 1 < cnt l l.length j) : ¬ (l.map (·.1)).Nodup := by
  intro hn
  have := List.nodup_iff_count.1 hn (j : Int)
  unfold cnt at h
  rw [List.take_length] at h
  omega

/-- What Join computes. -/
noncomputable def joinF (l : List (Int × Int)) (need : Int) : Int × Int := by
  classical exact
  if need < 1 ∨ 16 < need then (0, 1) else if l.all validB = false then (0, 1) else if ¬ (l.map (·.1)).Nodup then (0, 8)
  else if (l.length : Int) < need then (0, 25)
  else if (l.drop need.toNat).all (fun s => nv s.1 (l.take need.toNat) (need.toNat - 1) 0 == s.2) = false then (0, 24)
  else (nv 0 (l.take need.toNat) (need.toNat - 1) 0, 0)

theorem joinF_need (l : List (Int × Int)) (need : Int) (h : need < 1 ∨ 16 < need) : joinF l need = (0, 1) := by unfold joinF; rw [if_pos h]
theorem joinF_bad (l : List (Int × Int)) (need : Int) (h : 1 ≤ need) (h' : need ≤ 16) (hv : l.all validB = false) : joinF l need = (0, 1) := by
  unfold joinF; rw [if_neg (by omega), if_pos hv]
theorem joinF_dup (l : List (Int × Int)) (need : Int) (h : 1 ≤ need) (h' : need ≤ 16) (hv : l.all validB = true) (hd : ¬ (l.map (·.1)).Nodup) : joinF l need = (0, 8) := by
  unfold joinF; rw [if_neg (by omega), if_neg (by simp [hv]), if_pos hd]
theorem joinF_few (l : List (Int × Int)) (need : Int) (h : 1 ≤ need) (h' : need ≤ 16) (hv : l.all validB = true) (hd : (l.map (·.1)).Nodup) (hl : (l.length : Int) < need) : joinF l need = (0, 25) := by
  unfold joinF; rw [if_neg (by omega), if_neg (by simp [hv]), if_neg (by simpa using hd), if_pos hl]
theorem joinF_wrong (l : List (Int × Int)) (n : Nat) (h : 1 ≤ n) (h' : n ≤ 16) (hv : l.all validB = true) (hd : (l.map (·.1)).Nodup) (hl : n ≤ l.length)
    (k : Nat) (s : Int × Int) (hs : (l.drop n)[k]? = some s) (hw : ¬ nv s.1 (l.take n) (n - 1) 0 = s.2) : joinF l n = (0, 24) := by
  unfold joinF; rw [if_neg (by omega), if_neg (by simp [hv]), if_neg (by simpa using hd), if_neg (by omega), if_pos]
  rw [Int.toNat_natCast]
  exact all_false_of _ _ k s hs (by simpa using hw)
theorem joinF_ok (l : List (Int × Int)) (n : Nat) (h : 1 ≤ n) (h' : n ≤ 16) (hv : l.all validB = true) (hd : (l.map (·.1)).Nodup) (hl : n ≤ l.length)
    (hw : ∀ s, s ∈ l.drop n → nv s.1 (l.take n) (n - 1) 0 = s.2) : joinF l n = (nv 0 (l.take n) (n - 1) 0, 0) := by
  unfold joinF; rw [if_neg (by omega), if_neg (by simp [hv]), if_neg (by simpa using hd), if_neg (by omega), if_neg]
  · rw [Int.toNat_natCast]
  · rw [Int.toNat_natCast, Bool.not_eq_false, List.all_eq_true]
    intro s hs
    simpa using hw s hs

theorem Arr.zeros17 (w : World) (T : Nat) : Arr (w.alloc (.cells #[.int .i64 0, .int .i64 0, .int .i64 0, .int .i64 0, .int .i64 0, .int .i64 0, .int .i64 0, .int .i64 0, .int .i64 0, .int .i64 0, .int .i64 0, .int .i64 0, .int .i64 0, .int .i64 0, .int .i64 0, .int .i64 0, .int .i64 0] T)) w.heap.size T 17 (fun _ => 0) := by
  refine ⟨_, heap_alloc_new w _, rfl, fun j hj => ?_⟩
  match j, hj with
  | 0, _ | 1, _ | 2, _ | 3, _ | 4, _ | 5, _ | 6, _ | 7, _ | 8, _ | 9, _ | 10, _ | 11, _ | 12, _ | 13, _ | 14, _ | 15, _ | 16, _ => rfl
  | n + 17, h => omega

theorem info_point : (Tryz.prog.info? 74).map (fun i => (i.zero, i.size, i.bytes)) = some (some (.agg #[.int .i64 0, .int .i64 0]), 2, 16) := by kernel_rfl

set_option maxRecDepth 100000 in
set_option maxRecDepth 100000 in
set_option maxHeartbeats 8000000 in
theorem join_full (A : Option Addr) (c : Nat) (l : List (Int × Int)) (need : Int) (w : World) (hA : Prs w A l) (hlen : l.length ≤ 1000000) (hcap : l.length ≤ c) :
    Calls Tryz.prog 47 #[.slice A l.length c, .int .i64 need] w fun e w' =>
      e = .returned (.tuple #[.int .i64 (joinF l need).1, .int .i64 (joinF l need).2]) ∧ Below w.heap.size w w' := by
  by_cases hneed : need < 1 ∨ 16 < need
  · have hJ := Lib.hid (joinF_need l need hneed)
    rcases hneed with hneed | hneed
    · go_enter Tryz.func47, Tryz.ntmps47
      go_wp2
      go_ret2
      rw [hJ.out]
      exact ⟨rfl, Below.refl _ _⟩
    · go_enter Tryz.func47, Tryz.ntmps47
      go_wp2
      go_ret2
      rw [hJ.out]
      exact ⟨rfl, Below.refl _ _⟩
  have hn1 : 1 ≤ need := by omega
  have hn16 : need ≤ 16 := by omega
  clear hneed
  obtain ⟨n, rfl⟩ := Int.eq_ofNat_of_zero_le (show 0 ≤ need by omega)
  have HA := Lib.hid hA; clear hA
  go_enter Tryz.func47, Tryz.ntmps47
  go_wp2_with fail
  go_loopw [27] (fun u27 wr => ∃ (k : Nat) (f : Nat → Int), k ≤ l.length ∧ u27 = .int .i64 k ∧ Below w.heap.size w wr ∧ Arr wr w.heap.size 106 17 f ∧ (∀ j, j < 17 → f j = cnt l k j) ∧ (l.take k).all validB = true) (fun u27 _ => l.length - (intOf u27).toNat)
  case atStart => exact ⟨0, _, Nat.zero_le _, rfl, below_alloc (Below.refl _ _) _, Arr.zeros17 _ _, by simp [cnt_zero], rfl⟩
  case round =>
    obtain ⟨k, f, hk, rfl, hB, hAr, hf, hall⟩ := hrel
    have HB := Lib.hid hB; clear hB
    have HAR := Lib.hid hAr; clear hAr
    have HF := Lib.hid hf; clear hf
    have HALL := Lib.hid hall; clear hall
    have hlt0 := HAR.out.lt
    by_cases hlt : k < l.length
    · obtain ⟨s, hs⟩ := get_some l k hlt
      obtain ⟨b, off, rfl, hc1, hc2⟩ := (HA.out.below HB.out).at_ hs
      have HS := Lib.hid hs; clear hs
      cases hv : validB s
      · have hj := joinF_bad l n hn1 hn16 (all_false_of validB l k s HS.out hv)
        have HJ := Lib.hid hj; clear hj
        have HV := Lib.hid hv; clear hv
        go_wp2_with fail
        refine (valid_any s.1 s.2 _).mono ?_
        rintro e w' ⟨rfl, rfl⟩
        rw [HV.out]
        go_wp2
        go_ret2
        rw [HJ.out]
        exact ⟨rfl, below_alloc (below_alloc HB.out _) _⟩
      · obtain ⟨x1, x16, -⟩ := (validB_iff s).1 hv
        have HV := Lib.hid hv; clear hv
        have hcx := HAR.out.cell s.1.toNat (by omega)
        have hfx := HAR.out.frozen s.1.toNat
        have hb1 := cnt_le l k s.1.toNat
        rw [← HF.out s.1.toNat (by omega)] at hb1
        obtain ⟨b1, b2⟩ := hb1
        have hix : (0 : Int) ≤ s.1 := by omega
        have hix2 : s.1 < 17 := by omega
        go_wp2_with fail
        refine (valid_any s.1 s.2 _).mono ?_
        rintro e w' ⟨rfl, rfl⟩
        rw [HV.out]
        go_wp2
        go_roundw
        case rel =>
          refine ⟨k + 1, _, by omega, by go_num, (((HB.out).setCell (p := ⟨w.heap.size, s.1.toNat, none⟩) (Nat.le_refl _) _).alloc (by have := HB.out.size; simp; omega) _).alloc (by have := HB.out.size; simp; omega) _,
            ((HAR.out.set s.1.toNat (f s.1.toNat + 1)).alloc _).alloc _, fun j hj => ?_, by rw [all_take_succ validB l k s HS.out, HALL.out, HV.out]; rfl⟩
          rw [cnt_succ l k s HS.out j]
          by_cases hji : j = s.1.toNat
          · subst hji
            simp only [if_true]
            rw [if_pos (by omega), HF.out _ hj]
          · simp only [hji, if_false]
            rw [if_neg (by omega), HF.out _ hj]; omega
        case measure => simp [intOf]; omega
    · have hkl : l.length ≤ k := by omega
      have hall : l.all validB = true := by have := HALL.out; rwa [List.take_of_length_le hkl] at this
      have hfc : ∀ j, j < 17 → f j = cnt l l.length j := fun j hj => by rw [HF.out j hj]; unfold cnt; rw [List.take_of_length_le hkl, List.take_length]
      have HFC := Lib.hid hfc; clear hfc
      have HVA := Lib.hid hall; clear hall
      obtain ⟨cs, hcs, hcz, hcj⟩ := HAR.out
      have HCS := Lib.hid hcs; clear hcs
      have HCZ := Lib.hid hcz; clear hcz
      have HCJ := Lib.hid hcj; clear hcj
      go_wp2_with (refine wpList_load_row rfl 106 _ rfl w.heap.size rfl 106 cs _ _ HCS.out Tryz.underlying106 rfl (by rw [HCZ.out]; kernel_rfl) ?_)
      go_loop [10, 42] (fun _ u42 => ∃ i : Nat, i ≤ 17 ∧ u42 = .int .i64 i ∧ ∀ j, j < i → f j ≤ 1) (fun _ u42 => 17 - (intOf u42).toNat)
      case atStart => exact ⟨0, by omega, rfl, by simp⟩
      case round =>
        obtain ⟨i, hi, rfl, hle⟩ := hrel
        have HLE := Lib.hid hle; clear hle
        by_cases hlt2 : i < 17
        · obtain ⟨i0, hi0, hz0, hz1, hz2⟩ := info_parts info_int
          have hix := run_index_agg 106 3 17 .i64 i0 cs .i64 i _ Tryz.underlying106 Tryz.underlying3 hi0 hz1 hlt2 (HCJ.out i hlt2) wr
          clear hi0 hz0 hz1 hz2
          by_cases h1 : 1 < f i
          · have hj := joinF_dup l n hn1 hn16 HVA.out (dup_of_cnt l i (by rw [← HFC.out i hlt2]; exact h1))
            have HJ := Lib.hid hj; clear hj
            go_wp2
            go_ret2
            rw [HJ.out]
            exact ⟨rfl, HB.out⟩
          · have h1' : f i ≤ 1 := by omega
            go_wp2
            go_round
            case rel =>
              refine ⟨i + 1, by omega, by go_num, fun j hj => ?_⟩
              by_cases hji : j = i
              · subst hji; exact h1'
              · exact HLE.out j (by omega)
            case measure => simp [intOf]; omega
        · have hnd := nodup_of_cnt l HVA.out (fun j hj => by rw [← HFC.out j hj]; exact HLE.out j (by omega))
          have HND := Lib.hid hnd; clear hnd
          by_cases hfew : l.length < n
          · have hj := joinF_few l n hn1 hn16 HVA.out HND.out (by omega)
            have HJ := Lib.hid hj; clear hj
            go_wp2
            go_ret2
            rw [HJ.out]
            exact ⟨rfl, HB.out⟩
          · have hnl : n ≤ l.length := by omega
            obtain ⟨b, off, rfl, hcells⟩ := HA.out.2 (by omega)
            have HCE := Lib.hid hcells; clear hcells
            go_wp2_with fail
            obtain ⟨w3, rfl⟩ : ∃ w3 : World, w3 = wr := ⟨_, rfl⟩
            obtain ⟨i2, hi2, hy0, hy1, hy2⟩ := info_parts info_point
            have HI2 := Lib.hid (And.intro hi2 (And.intro hy0 (And.intro hy1 hy2)))
            clear hi2 hy0 hy1 hy2
            go_loopw [11, 56] (fun u11 u56 wr => ∃ q : Nat, q ≤ n ∧ u56 = .int .i64 q ∧ Below w3.heap.size w3 wr ∧ wr.ownsRow w3.heap.size 74 2 u11 q (flat2 (l.take q))) (fun _ u56 _ => n - (intOf u56).toNat)
            case atStart => exact ⟨0, Nat.zero_le _, rfl, Below.refl _ _, World.ownsRow_nil _ _ _ _⟩
            case round =>
              obtain ⟨q, hq, rfl, hB3, hO3⟩ := hrel
              have HB3 := Lib.hid hB3; clear hB3
              have HO3 := Lib.hid hO3; clear hO3
              by_cases hqn : q < n
              · obtain ⟨s, hs⟩ := get_some l q (by omega)
                obtain ⟨h1, h2⟩ := flat2_at l q s hs
                have hc1 := kept_cell HB3.out (kept_cell HB.out (HCE.out _ _ h1))
                have hc2 := kept_cell HB3.out (kept_cell HB.out (HCE.out _ _ h2))
                rw [← Nat.add_assoc] at hc2
                have HS := Lib.hid hs; clear hs h1 h2
                go_wp2_with (at_builtin; refine wpList_app _ rfl (.tmp 60) (.tmp 66) 107 107 rfl w3.heap.size 74 74 i2 _ 2 16 Tryz.underlying107 Tryz.underlying107 HI2.out.1 HI2.out.2.1 HI2.out.2.2.1 HI2.out.2.2.2 rfl (by omega) _ q _ rfl ((HO3.out.alloc _).alloc _) _ 1 1 [.int .i64 s.1, .int .i64 s.2] rfl (Rd_new (wr.alloc _) #[.int .i64 s.1, .int .i64 s.2] _ 2 1 _ rfl (by simp)) (by simp [Value.oneCell']) (by simp only [maxLen]; omega) (by omega) (by have := HB3.out.size; simp; omega) ?_)
                intro v1 w4 hown4 hg4
                have hB4 : Below w3.heap.size w3 w4 := (below_alloc (below_alloc HB3.out _) _).grown hg4 (by have := HB3.out.size; simp; omega) (fun j hj => (HO3.out.lt j hj).1)
                have e4 : flat2 (l.take q) ++ [.int .i64 s.1, .int .i64 s.2] = flat2 (l.take (q + 1)) := by rw [take_snoc l q s HS.out, flat2_append]; rfl
                rw [e4] at hown4
                have HOWN4 := Lib.hid hown4
                have HB4 := Lib.hid hB4
                clear hown4 hB4 hg4 e4
                go_wp2
                go_roundw
                case rel => exact ⟨q + 1, by omega, by go_num, HB4.out, HOWN4.out⟩
                case measure => simp [intOf]; omega
              · obtain rfl : q = n := by omega
                obtain ⟨A3, c3, rfl, hc3, hm3, hrd3⟩ := Rd.of_own HO3.out
                have eql : (l.take q).length = q := List.length_take_of_le hnl
                have hP3 : Prs wr A3 (l.take q) := by
                  unfold Prs; rw [eql]; exact hrd3
                have helem : ∀ p, p ∈ l → elemB p.1 = true ∧ elemB p.2 = true := fun p hp => by
                  have := (validB_iff p).1 (List.all_eq_true.1 HVA.out p hp)
                  exact ⟨by rw [elemB_iff]; omega, this.2.2⟩
                have hcall : ∀ (x : Int), elemB x = true → ∀ W, Below wr.heap.size wr W → Calls Tryz.prog 76 #[.slice A3 q c3, .int .i64 x] W fun e w' =>
                    e = .returned (.tuple #[.int .i64 (nv x (l.take q) (q - 1) 0), .int .i64 0]) ∧ Below W.heap.size W w' := by
                  intro x hx W hW
                  have h := pointsat_any A3 c3 (l.take q) x W (hP3.below hW) (by rw [eql]; omega) (by rw [eql]; omega) (by rw [eql]; exact hc3) hx (fun p hp => helem p (List.mem_of_mem_take hp))
                    ((HND.out).sublist ((List.take_sublist q l).map _))
                  rw [eql] at h
                  exact h
                have HCALL := Lib.hid hcall
                have HEL := Lib.hid helem
                have HB0 := Lib.hid (HB.out.trans (HB3.out.mono HB.out.size))
                clear hP3 hrd3 hcall helem eql
                obtain ⟨w5, rfl⟩ : ∃ w5 : World, w5 = wr := ⟨_, rfl⟩
                by_cases hcq : c = q
                · obtain rfl := hcq
                  have hj := joinF_ok l c (by omega) (by omega) HVA.out HND.out hnl (by intro s hs; rw [List.drop_eq_nil_of_le hcap] at hs; cases hs)
                  have HJ := Lib.hid hj; clear hj
                  go_wp2_with fail
                  refine wp_loop_rounds 1 ?_
                  rw [rounds_succ]
                  have hz : ¬ ((0 : Int) < (l.length : Int) - (c : Int)) := by omega
                  go_wp2_with fail
                  refine (HCALL.out 0 rfl _ (Below.refl _ _)).mono ?_
                  rintro e w6 ⟨rfl, hb6⟩
                  have HB6 := Lib.hid hb6; clear hb6
                  go_wp2
                  go_ret2
                  rw [HJ.out]
                  exact ⟨rfl, below_trans HB0.out HB6.out⟩
                · go_wp2_with fail
                  go_loopw [17, 18, 75] (fun _ _ u75 wr => ∃ r : Nat, r ≤ l.length - q ∧ u75 = .int .i64 r ∧ Below w5.heap.size w5 wr ∧ ∀ s, s ∈ (l.drop q).take r → nv s.1 (l.take q) (q - 1) 0 = s.2) (fun _ _ u75 _ => l.length - (intOf u75).toNat)
                  case atStart => exact ⟨0, Nat.zero_le _, rfl, Below.refl _ _, by simp⟩
                  case round =>
                    obtain ⟨r, hr, rfl, hB5, hok⟩ := hrel
                    have HB5 := Lib.hid hB5; clear hB5
                    have HOK := Lib.hid hok; clear hok
                    by_cases hrl : r < l.length - q
                    · obtain ⟨s, hs⟩ := get_some l (q + r) (by omega)
                      have hsd : (l.drop q)[r]? = some s := by rw [List.getElem?_drop]; exact hs
                      obtain ⟨h1, h2⟩ := flat2_at l (q + r) s hs
                      have hc1 := kept_cell HB5.out (kept_cell HB0.out (kept_cell (Below.refl _ _) (HCE.out _ _ h1)))
                      have hc2 := kept_cell HB5.out (kept_cell HB0.out (kept_cell (Below.refl _ _) (HCE.out _ _ h2)))
                      rw [show off + (q + r) * 2 = off + q * 2 + r * 2 by omega] at hc1
                      rw [show off + ((q + r) * 2 + 1) = off + q * 2 + r * 2 + 1 by omega] at hc2
                      have hex := (HEL.out s (List.mem_of_getElem? hs)).1
                      have hca := Lib.hid (HCALL.out s.1 hex _ (below_alloc HB5.out (.cells #[.int .i64 s.1, .int .i64 s.2] 37)))
                      have HSD := Lib.hid hsd
                      clear hs hsd h1 h2 hex
                      go_wp2_with fail
                      refine hca.out.mono ?_
                      rintro e w6 ⟨rfl, hb6⟩
                      have hsz : wr.heap.size < w6.heap.size := by have := hb6.size; simp at this; omega
                      have hcy : w6.cell? ⟨wr.heap.size, 1, none⟩ = some (.int .i64 s.2) := below_cell hb6 (by simp) (by rw [World.cell?_alloc_at _ _ _ _ rfl]; rfl)
                      have hb7 := below_trans (below_alloc HB5.out _) hb6
                      have HB7 := Lib.hid hb7
                      clear hb6 hb7
                      by_cases hy : nv s.1 (l.take q) (q - 1) 0 = s.2
                      · have HY := Lib.hid hy
                        have hy' : (nv s.1 (l.take q) (q - 1) 0 == s.2) = true := by simpa using hy
                        have hy'' : (nv s.1 (l.take q) (q - 1) 0 != s.2) = false := by simpa using hy
                        clear hy
                        go_wp2
                        go_roundw
                        case rel =>
                          refine ⟨r + 1, by omega, by go_num, HB7.out, fun t ht => ?_⟩
                          rw [take_snoc _ r s HSD.out] at ht
                          rcases List.mem_append.1 ht with ht | ht
                          · exact HOK.out t ht
                          · rw [List.mem_singleton.1 ht]; exact HY.out
                        case measure => simp [intOf]; omega
                      · have hj := joinF_wrong l q (by omega) (by omega) HVA.out HND.out hnl r s HSD.out hy
                        have HJ := Lib.hid hj; clear hj
                        have hy' : (nv s.1 (l.take q) (q - 1) 0 == s.2) = false := by simpa using hy
                        have hy'' : (nv s.1 (l.take q) (q - 1) 0 != s.2) = true := by simpa using hy
                        clear hy
                        go_wp2
                        go_ret2
                        rw [HJ.out]
                        exact ⟨rfl, below_trans HB0.out HB7.out⟩
                    · have hall : ∀ s, s ∈ l.drop q → nv s.1 (l.take q) (q - 1) 0 = s.2 := by
                        have := HOK.out
                        rwa [List.take_of_length_le (by rw [List.length_drop]; omega)] at this
                      have hj := joinF_ok l q (by omega) (by omega) HVA.out HND.out hnl hall
                      have HJ := Lib.hid hj; clear hj hall
                      go_wp2_with fail
                      refine (HCALL.out 0 rfl _ HB5.out).mono ?_
                      rintro e w6 ⟨rfl, hb6⟩
                      have HB6 := Lib.hid hb6; clear hb6
                      go_wp2
                      go_ret2
                      rw [HJ.out]
                      exact ⟨rfl, below_trans HB0.out (below_trans HB5.out HB6.out)⟩
end

end Go.Proofs.YtdlgejofggbifaaGreatDoor
