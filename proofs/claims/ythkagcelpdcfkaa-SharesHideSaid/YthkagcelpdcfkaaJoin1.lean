/- The closure inside field.Interpolate. -/
import Derived.Test.YthkagcelpdcfkaaEval
namespace Go.Proofs.Ythkagcelpdcfkaa
open Go.RowKit

/-- One step of Neville's scheme. -/
noncomputable def nst (x xi xk vi vj : Int) : Int := mns (mns x xk * vi % 2147483647) (mns x xi * vj % 2147483647) * invp (mns xi xk) % 2147483647

theorem nst_range (x xi xk vi vj : Int) : 0 ≤ nst x xi xk vi vj ∧ nst x xi xk vi vj < 2147483647 := by unfold nst; omega

theorem mns_pos (a b : Int) (h0 : 0 ≤ a) (h1 : a < 2147483647) (g0 : 0 ≤ b) (g1 : b < 2147483647) (h : a ≠ b) : 0 < mns a b := by unfold mns; omega

set_option maxHeartbeats 1600000 in
theorem join_any (i k n b off cap bp bx ba : Nat) (x xi xk vi vj : Int) (w : World)
    (hi : i + 1 < 16) (hin : i < n) (hkn : k < n) (_hn : n ≤ 16) (_hcap : n ≤ cap)
    (hbp : w.cell? ⟨bp, 0, none⟩ = some (.slice (some ⟨b, off, none⟩) n cap)) (hbx : w.cell? ⟨bx, 0, none⟩ = some (.int .i64 x))
    (hxi : w.cell? ⟨b, off + i * 2, none⟩ = some (.int .i64 xi)) (hxk : w.cell? ⟨b, off + k * 2, none⟩ = some (.int .i64 xk))
    (hvi : w.cell? ⟨ba, i, none⟩ = some (.int .i64 vi)) (hvj : w.cell? ⟨ba, i + 1, none⟩ = some (.int .i64 vj)) (hfr : w.frozen? ⟨ba, i, none⟩ = false)
    (x0 : 0 ≤ x) (x1 : x < 2147483647) (xi0 : 0 ≤ xi) (xi1 : xi < 2147483647) (xk0 : 0 ≤ xk) (xk1 : xk < 2147483647)
    (vi0 : 0 ≤ vi) (vi1 : vi < 2147483647) (vj0 : 0 ≤ vj) (vj1 : vj < 2147483647) (hne : xi ≠ xk) :
    Calls Try.prog 28 #[.int .i64 i, .int .i64 k, .pointer (some ⟨bp, 0, none⟩), .pointer (some ⟨bx, 0, none⟩), .pointer (some ⟨ba, 0, none⟩)] w fun e w' =>
      e = .returned (.tuple #[]) ∧ ∃ m, w' = (w.drewN m).setCell ⟨ba, i, none⟩ (.int .i64 (nst x xi xk vi vj)) := by
  have hp := mns_pos xi xk xi0 xi1 xk0 xk1 hne
  clear hne
  obtain ⟨a0, a1⟩ := mns_range x xk
  obtain ⟨b0, b1⟩ := mns_range x xi
  obtain ⟨c0, c1⟩ := mns_range xi xk
  obtain ⟨m0, m1⟩ := mul_range (mns x xk) vi a0 (by omega) vi0 (by omega)
  obtain ⟨n0, n1⟩ := mul_range (mns x xi) vj b0 (by omega) vj0 (by omega)
  obtain ⟨l0, l1⟩ := mns_range (mns x xk * vi % 2147483647) (mns x xi * vj % 2147483647)
  go_enter Try.func28, Try.ntmps28
  go_wp2
  go_quiet (fail)
  go_wp2
  go_quiet ((go_at_call 29; exact quiet_same2 (minus_any _ _ _ (by omega) (by omega) (by omega) (by omega))))
  go_wp2_with fail
  refine (minus_any _ _ _ (by omega) (by omega) (by omega) (by omega)).mono ?_
  rintro e w' ⟨rfl, rfl⟩
  go_wp2_with fail
  refine (minus_any _ _ _ (by omega) (by omega) (by omega) (by omega)).mono ?_
  rintro e w' ⟨rfl, rfl⟩
  go_wp2_with fail
  refine (inverse_any _ _ hp c1).mono ?_
  rintro e w' ⟨⟨rfl, i0, i1, -⟩, rfl⟩
  obtain ⟨k0, k1⟩ := mul_range _ _ l0 (by omega) i0 (by omega)
  go_wp2
  go_end0
  exact ⟨rfl, _, rfl⟩

end Go.Proofs.Ythkagcelpdcfkaa
