/- The contracts of field.Eval and field.Inverse. -/
import Derived.Test.YthkagcelpdcfkaaInv
namespace Go.Proofs.Ythkagcelpdcfkaa
open Go.RowKit

/-- Horner's scheme modulo the prime. -/
def evp : List Int → Int → Int
  | [], _ => 0
  | a :: l, x => (evp l x * x + a) % 2147483647

theorem evp_range (l : List Int) (x : Int) : 0 ≤ evp l x ∧ evp l x < 2147483647 := by
  cases l with
  | nil => simp [evp]
  | cons a l => simp only [evp]; omega

theorem evp_drop (xs : List Int) (x : Int) (k : Nat) (y : Int) (hk : xs[k]? = some y) : evp (xs.drop k) x = (evp (xs.drop (k + 1)) x * x + y) % 2147483647 := by
  obtain ⟨h, rfl⟩ := List.getElem?_eq_some_iff.1 hk
  rw [List.drop_eq_getElem_cons h]; rfl

theorem elemB_iff (x : Int) : elemB x = true ↔ 0 ≤ x ∧ x < 2147483647 := by simp [elemB]

set_option maxHeartbeats 800000 in
theorem eval_any (A : Option Addr) (c : Nat) (xs : List Int) (x : Int) (w : World) (hv : Ints w A xs) (hl : xs.length ≤ 16) (hall : xs.all elemB = true) (hx : elemB x = true) :
    Calls Try.prog 23 #[.slice A xs.length c, .int .i64 x] w fun e w' => e = .returned (.tuple #[.int .i64 (evp xs x), .int .i64 0]) ∧ w = w' := by
  have ⟨hx0, hx1⟩ := (elemB_iff x).1 hx
  have HV := Lib.hid hv; clear hv
  have HALL := Lib.hid hall; clear hall
  have HX := Lib.hid hx; clear hx
  go_enter Try.func23, Try.ntmps23
  go_wp2_with fail
  refine (elements_any _ _ xs _ HV.out (by omega)).mono ?_
  rintro e w' ⟨rfl, rfl⟩
  rw [HALL.out]
  go_wp2_with fail
  refine (element_any _ _).mono ?_
  rintro e w' ⟨rfl, rfl⟩
  rw [HX.out]
  go_wp2
  go_loop [6, 23] (fun o i => ∃ k : Nat, k ≤ xs.length ∧ i = .int .i64 k ∧ o = .int .i64 (evp (xs.drop (xs.length - k)) x)) (fun _ i => xs.length - (intOf i).toNat)
  case atStart => exact ⟨0, Nat.zero_le _, rfl, by simp [evp]⟩
  case round =>
    obtain ⟨k, hk, rfl, rfl⟩ := hrel
    obtain ⟨r0, r1⟩ := evp_range (xs.drop (xs.length - k)) x
    by_cases hlt : k < xs.length
    · obtain ⟨y, hy⟩ : ∃ y, xs[xs.length - 1 - k]? = some y := get_some _ _ (by omega)
      obtain ⟨b, off, rfl, hcell⟩ := HV.out.at_ hy
      have he := evp_drop xs x _ y hy
      rw [show xs.length - 1 - k + 1 = xs.length - k by omega] at he
      have hy2 := (elemB_iff y).1 (List.all_eq_true.1 HALL.out y (List.mem_of_getElem? hy))
      obtain ⟨y0, y1⟩ := hy2
      rw [show xs.length - 1 - k = xs.length - (k + 1) by omega] at he
      have HE := Lib.hid he; clear he hy
      generalize evp (xs.drop (xs.length - k)) x = acc at *
      have m0 : 0 ≤ acc * x := Int.mul_nonneg r0 hx0
      have m1 : acc * x ≤ 2147483647 * 2147483647 := Int.mul_le_mul (by omega) (by omega) hx0 (by omega)
      go_wp2
      go_round
      case rel => exact ⟨k + 1, by omega, by go_num, by rw [HE.out]⟩
      case measure => simp [intOf]; omega
    · have hk' : k = xs.length := by omega
      go_wp2
      go_ret2
      exact ⟨rfl, rfl⟩

theorem inverse_zero (w : World) :
    Calls Try.prog 21 #[.int .i64 0] w fun e w' => e = .returned (.tuple #[.int .i64 0, .int .i64 14]) ∧ w = w' := by
  have hx : elemB 0 = true := rfl
  have HX := Lib.hid hx; clear hx
  go_enter Try.func21, Try.ntmps21
  go_wp2_with fail
  refine (element_any _ _).mono ?_
  rintro e w' ⟨rfl, rfl⟩
  rw [HX.out]
  go_wp2
  go_ret2
  exact ⟨rfl, rfl⟩

theorem inverse_ok (a : Int) (w : World) (h0 : 0 < a) (h1 : a < 2147483647) :
    Calls Try.prog 21 #[.int .i64 a] w fun e w' => e = .returned (.tuple #[.int .i64 (invp a), .int .i64 0]) ∧ w = w' := by
  have hx : elemB a = true := by rw [elemB_iff]; omega
  have HX := Lib.hid hx; clear hx
  have hne : (a == 0) = false := by simp; omega
  go_enter Try.func21, Try.ntmps21
  go_wp2_with fail
  refine (element_any _ _).mono ?_
  rintro e w' ⟨rfl, rfl⟩
  rw [HX.out]
  go_wp2_with fail
  refine (inverse_any a _ h0 h1).mono ?_
  rintro e w' ⟨⟨rfl, -, -, -⟩, rfl⟩
  go_wp2
  go_ret2
  exact ⟨rfl, rfl⟩

end Go.Proofs.Ythkagcelpdcfkaa
