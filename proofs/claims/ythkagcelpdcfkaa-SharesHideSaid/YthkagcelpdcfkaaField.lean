/- Contracts of package field: element, elements, minus. -/
import Derived.Test.YthkagcelpdcfkaaBase
namespace Go.Proofs.Ythkagcelpdcfkaa
open Go.RowKit

def elemB (a : Int) : Bool := decide (0 ≤ a) && decide (a < 2147483647)

theorem element_any (a : Int) (w : World) :
    Calls Try.prog 26 #[.int .i64 a] w fun e w' => e = .returned (.bool (elemB a)) ∧ w = w' := by
  by_cases h0 : 0 ≤ a
  · by_cases h1 : a < 2147483647
    · go_enter Try.func26, Try.ntmps26
      go_wp2
      go_ret
      exact ⟨by simp [elemB, h0, h1], rfl⟩
    · go_enter Try.func26, Try.ntmps26
      go_wp2
      go_ret
      exact ⟨by simp [elemB, h0, h1], rfl⟩
  · go_enter Try.func26, Try.ntmps26
    go_wp2
    go_ret
    exact ⟨by simp [elemB]; omega, rfl⟩

set_option maxHeartbeats 400000 in
theorem elements_any (A : Option Addr) (c : Nat) (xs : List Int) (w : World) (hv : Ints w A xs) (hmax : xs.length ≤ 9223372036854775807) :
    Calls Try.prog 25 #[.slice A xs.length c] w fun e w' => e = .returned (.bool (xs.all elemB)) ∧ w = w' := by
  have HV := Lib.hid hv; clear hv
  go_enter Try.func25, Try.ntmps25
  go_wp2
  go_loop [7] (fun i => ∃ k : Nat, k ≤ xs.length ∧ i = .int .i64 k ∧ (xs.take k).all elemB = true) (fun i => xs.length - (intOf i).toNat)
  case atStart => exact ⟨0, Nat.zero_le _, rfl, rfl⟩
  case round =>
    obtain ⟨k, hk, rfl, hall⟩ := hrel
    have HALL := Lib.hid hall; clear hall
    by_cases hlt : k < xs.length
    · obtain ⟨x, hx⟩ := get_some xs k hlt
      obtain ⟨b, off, rfl, hcell⟩ := HV.out.at_ hx
      have HX := Lib.hid hx; clear hx
      cases hb : elemB x
      · go_wp2_with (go_at_call 26; refine (element_any _ _).mono ?_; rintro e w' ⟨rfl, rfl⟩)
        go_ret
        exact ⟨ret_bool (all_false_of elemB xs k x HX.out hb).symm, rfl⟩
      · go_wp2_with (go_at_call 26; refine (element_any _ _).mono ?_; rintro e w' ⟨rfl, rfl⟩)
        go_round
        case rel => exact ⟨k + 1, by omega, by go_num, by rw [all_take_succ elemB xs k x HX.out, HALL.out, hb]; rfl⟩
        case measure => simp [intOf]; omega
    · have hk' : xs.length ≤ k := by omega
      go_wp2
      go_ret
      exact ⟨ret_bool (by rw [← HALL.out, List.take_of_length_le hk']), rfl⟩

/-- A difference modulo the prime. -/
def mns (a b : Int) : Int := (a - b + 2147483647) % 2147483647

theorem mns_range (a b : Int) : 0 ≤ mns a b ∧ mns a b < 2147483647 := by unfold mns; omega

theorem mul_range (a b : Int) (ha : 0 ≤ a) (ha' : a ≤ 2147483647) (hb : 0 ≤ b) (hb' : b ≤ 2147483647) : 0 ≤ a * b ∧ a * b ≤ 4611686014132420609 :=
  ⟨Int.mul_nonneg ha hb, Int.le_trans (Int.mul_le_mul ha' hb' hb (by omega)) (by decide)⟩

theorem minus_any (a b : Int) (w : World) (ha : 0 ≤ a) (ha' : a ≤ 2147483647) (hb : 0 ≤ b) (hb' : b ≤ 2147483647) :
    Calls Try.prog 29 #[.int .i64 a, .int .i64 b] w fun e w' => e = .returned (.int .i64 (mns a b)) ∧ w = w' := by
  go_enter Try.func29, Try.ntmps29
  go_wp2
  go_ret
  exact ⟨rfl, rfl⟩

theorem Ints_two (w : World) (T : Nat) (a b : Int) : Ints (w.alloc (.cells #[.int .i64 a, .int .i64 b] T)) (some ⟨w.heap.size, 0, none⟩) [a, b] := by
  refine ⟨rfl, fun _ => ⟨_, _, rfl, fun j u hu => ?_⟩⟩
  rw [World.cell?_alloc_at _ _ _ _ rfl]
  match j, hu with
  | 0, hu => simp at hu; simp [hu]
  | 1, hu => simp at hu; simp [hu]

theorem add_any (a b : Int) (w : World) (ha : 0 ≤ a) (ha' : a < 2147483647) (hb : 0 ≤ b) (hb' : b < 2147483647) :
    Calls Try.prog 20 #[.int .i64 a, .int .i64 b] w fun e w' => e = .returned (.tuple #[.int .i64 ((a + b) % 2147483647), .int .i64 0]) ∧ Below w.heap.size w w' := by
  have he : [a, b].all elemB = true := by simp [elemB]; omega
  have HE := Lib.hid he; clear he
  go_enter Try.func20, Try.ntmps20
  go_wp2_with fail
  refine (elements_any _ _ [a, b] _ (Ints_two w _ a b) (by simp)).mono ?_
  rintro e w' ⟨rfl, rfl⟩
  rw [HE.out]
  go_wp2
  go_ret2
  exact ⟨rfl, (Below.refl _ _).alloc (Nat.le_refl _) _⟩

theorem mul_any (a b : Int) (w : World) (ha : 0 ≤ a) (ha' : a < 2147483647) (hb : 0 ≤ b) (hb' : b < 2147483647) :
    Calls Try.prog 22 #[.int .i64 a, .int .i64 b] w fun e w' => e = .returned (.tuple #[.int .i64 ((a * b) % 2147483647), .int .i64 0]) ∧ Below w.heap.size w w' := by
  have he : [a, b].all elemB = true := by simp [elemB]; omega
  have HE := Lib.hid he; clear he
  have hm0 : 0 ≤ a * b := Int.mul_nonneg ha hb
  have hm1 : a * b ≤ 2147483647 * 2147483647 := Int.mul_le_mul (by omega) (by omega) hb (by omega)
  go_enter Try.func22, Try.ntmps22
  go_wp2_with fail
  refine (elements_any _ _ [a, b] _ (Ints_two w _ a b) (by simp)).mono ?_
  rintro e w' ⟨rfl, rfl⟩
  rw [HE.out]
  go_wp2
  go_ret2
  exact ⟨rfl, (Below.refl _ _).alloc (Nat.le_refl _) _⟩

end Go.Proofs.Ythkagcelpdcfkaa
