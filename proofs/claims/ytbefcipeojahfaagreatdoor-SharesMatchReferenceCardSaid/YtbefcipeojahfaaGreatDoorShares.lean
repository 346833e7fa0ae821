/- Contracts of package shares: element, valid, the two methods at. -/
import Derived.Test.YtbefcipeojahfaaGreatDoorInterp
namespace Go.Proofs.YtbefcipeojahfaaGreatDoor
open Go.RowKit

theorem selement_any (a : Int) (w : World) :
    Calls Tryz.prog 26 #[.int .i64 a] w fun e w' => e = .returned (.bool (elemB a)) ∧ w = w' := by
  by_cases h0 : 0 ≤ a
  · by_cases h1 : a < 2147483647
    · go_enter Tryz.func26, Tryz.ntmps26
      go_wp2
      go_ret
      exact ⟨by simp [elemB, h0, h1], rfl⟩
    · go_enter Tryz.func26, Tryz.ntmps26
      go_wp2
      go_ret
      exact ⟨by simp [elemB, h0, h1], rfl⟩
  · go_enter Tryz.func26, Tryz.ntmps26
    go_wp2
    go_ret
    exact ⟨by simp [elemB]; omega, rfl⟩

def validB (s : Int × Int) : Bool := decide (1 ≤ s.1) && decide (s.1 ≤ 16) && elemB s.2

theorem valid_any (x y : Int) (w : World) :
    Calls Tryz.prog 30 #[.agg #[.int .i64 x, .int .i64 y]] w fun e w' => e = .returned (.bool (validB (x, y))) ∧ w.alloc (.cells #[.int .i64 x, .int .i64 y] 25) = w' := by
  by_cases h0 : 1 ≤ x
  · by_cases h1 : x ≤ 16
    · go_enter Tryz.func30, Tryz.ntmps30
      go_wp2_with (go_at_call 26; refine (selement_any _ _).mono ?_; rintro e w' ⟨rfl, rfl⟩)
      go_ret
      exact ⟨ret_bool (by simp [validB, h0, h1]), rfl⟩
    · go_enter Tryz.func30, Tryz.ntmps30
      go_wp2
      go_ret
      exact ⟨ret_bool (by simp [validB]; omega), rfl⟩
  · go_enter Tryz.func30, Tryz.ntmps30
    go_wp2
    go_ret
    exact ⟨ret_bool (by simp [validB]; omega), rfl⟩

theorem polyat_any (A : Option Addr) (c : Nat) (xs : List Int) (x : Int) (w : World) (hv : Ints w A xs) (hl : xs.length ≤ 16) (hall : xs.all elemB = true) (hx : elemB x = true) :
    Calls Tryz.prog 27 #[.slice A xs.length c, .int .i64 x] w fun e w' => e = .returned (.tuple #[.int .i64 (evp xs x), .int .i64 0]) ∧ w = w' := by
  have H := Lib.hid (eval_any A c xs x w hv hl hall hx)
  clear hv hall hx
  go_enter Tryz.func27, Tryz.ntmps27
  go_wp2_with fail
  refine H.out.mono ?_
  rintro e w' ⟨rfl, rfl⟩
  go_wp2
  go_ret2
  exact ⟨rfl, rfl⟩

theorem pointsat_any (A : Option Addr) (cap : Nat) (ps : List (Int × Int)) (x : Int) (w : World) (hc : Prs w A ps) (h1 : 1 ≤ ps.length) (h16 : ps.length ≤ 16)
    (hcap : ps.length ≤ cap) (hx : elemB x = true) (hall : ∀ p, p ∈ ps → elemB p.1 = true ∧ elemB p.2 = true) (hnd : (ps.map (·.1)).Nodup) :
    Calls Tryz.prog 31 #[.slice A ps.length cap, .int .i64 x] w fun e w' =>
      e = .returned (.tuple #[.int .i64 (nv x ps (ps.length - 1) 0), .int .i64 0]) ∧ Below w.heap.size w w' := by
  have H := Lib.hid (interp_prs A cap ps x w hc h1 h16 hcap hx hall hnd)
  clear hc hall hx hnd
  go_enter Tryz.func31, Tryz.ntmps31
  go_wp2_with fail
  refine H.out.mono ?_
  rintro e w' ⟨rfl, hb⟩
  go_wp2
  go_ret2
  exact ⟨rfl, hb⟩

end Go.Proofs.YtbefcipeojahfaaGreatDoor
