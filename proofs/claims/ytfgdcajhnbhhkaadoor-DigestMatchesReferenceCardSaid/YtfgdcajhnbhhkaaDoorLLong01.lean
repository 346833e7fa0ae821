/- The reference's Chain; the law DigestLong: the walk. -/
import Derived.Test.YtfgdcajhnbhhkaaDoorRef01
import Derived.Test.YtfgdcajhnbhhkaaDoorLaid01
import Derived.Test.YtfgdcajhnbhhkaaDoorOpen
namespace Go.Proofs.YtfgdcajhnbhhkaaDoor
open Go.RowKit

set_option maxHeartbeats 4000000 in
theorem rchain (t : ByteArray) (n : Int) (w : World) (ht : t.size ≤ 1000000000) (hn : -9223372036854775808 ≤ n ∧ n ≤ 9223372036854775807) :
    Calls Tryd.prog 17 #[.string t, .int .i64 n] w fun e w' => e = .returned (.string (chn t (times n))) ∧ w = w' := by
  obtain ⟨hn1, hn2⟩ := hn
  by_cases hneg : n ≤ 0
  · have hm : times n = 0 := by unfold times; omega
    have HM := Lib.hid hm
    have e1 : min n 1000 = n := by omega
    have e2 : decide (0 < n) = false := by simp; omega
    rw [hm]
    clear hm
    go_enter Tryd.func17, Tryd.ntmps17
    go_wp2_with fail
    go_loop [0, 5] (fun u0 u5 => u5 = .int .i64 0 ∧ u0 = .string t) (fun _ _ => 0)
    case atStart => exact ⟨rfl, rfl⟩
    case round =>
    obtain ⟨rfl, rfl⟩ := hrel
    go_wp2
    go_ret
    exact ⟨rfl, rfl⟩
  · obtain ⟨m, hm⟩ : ∃ m, times n = m := ⟨_, rfl⟩
    have hmm : min n 1000 = (m : Int) := by unfold times at hm; omega
    have hm3 : m ≤ 1000 := by omega
    rw [hm]
    clear hm
    go_enter Tryd.func17, Tryd.ntmps17
    go_wp2_with fail
    go_loop [0, 5] (fun u0 u5 => ∃ k : Nat, k ≤ m ∧ u5 = .int .i64 k ∧ u0 = .string (chn t k)) (fun _ u5 => m - (intOf u5).toNat)
    case atStart => exact ⟨0, Nat.zero_le _, rfl, rfl⟩
    case round =>
    obtain ⟨k, hk, rfl, rfl⟩ := hrel
    by_cases hlt : k < m
    · go_wp2_with fail
      refine (rsum (chn t k) (chn_size t k ht) w).mono ?_
      rintro e w1 ⟨rfl, rfl⟩
      go_wp2_with fail
      go_round
      case rel => exact ⟨k + 1, by omega, by go_num, rfl⟩
      case measure => simp [intOf]; omega
    · obtain rfl : k = m := by omega
      go_wp2
      go_ret
      exact ⟨rfl, rfl⟩

set_option maxRecDepth 100000 in
set_option maxHeartbeats 8000000 in
theorem long_walk (t : ByteArray) (n : Int) (w : World) (hT : Tabs w) (ht : t.size ≤ maxLen) :
    Calls Tryd.prog 4 #[.string t, .int .i64 n] w fun e w' => e = .returned (.bool true) ∧ Below w.heap.size w w' := by
  unfold maxLen at ht
  have HCH : Hid (∀ (t : ByteArray) (n : Int) (w' : World), t.size ≤ 1000000000 → Below w.heap.size w w' → Calls Tryd.prog 16 #[.string t, .int .i64 n] w' fun e w'' => e = .returned (.string (chn t (times n))) ∧ Below w.heap.size w w'') := Lib.hid (fun t n w' ht hb => (chain_any t n w' ht (hT.below hb).t64).mono fun _ _ ⟨he, h2⟩ => ⟨he, below_trans hb h2⟩)
  have HH := Lib.hid (head_any w hT)
  clear hT
  by_cases h1 : t.size ≤ 200
  · by_cases h2 : n ≤ 1000
    · go_enter Tryd.func4, Tryd.ntmps4
      go_wp2_with fail
      refine HH.out.mono ?_
      rintro e w1 ⟨rfl, hb1⟩
      have HB1 := Lib.hid hb1
      clear hb1
      go_wp2
      go_ret
      exact ⟨rfl, HB1.out⟩
    · have h3 : 1000 < n := by omega
      have HTM : Hid (times n = 1000) := Lib.hid (by unfold times; omega)
      have HTM2 : Hid (times 1000 = 1000) := Lib.hid rfl
      obtain ⟨r, hr⟩ : ∃ r, chn t 1000 = r := ⟨_, rfl⟩
      have HR := Lib.hid hr
      have t1 := beq_true r
      clear hr
      go_enter Tryd.func4, Tryd.ntmps4
      go_wp2_with fail
      refine HH.out.mono ?_
      rintro e w1 ⟨rfl, hb1⟩
      have HB1 := Lib.hid hb1
      clear hb1
      go_wp2_with fail
      refine (HCH.out t n w1 (by omega) HB1.out).mono ?_
      rw [HTM.out, HR.out]
      rintro e w2 ⟨rfl, hb2⟩
      have HB2 := Lib.hid hb2
      clear hb2
      go_wp2_with fail
      refine (rchain t 1000 w2 (by omega) (by omega)).mono ?_
      rw [HTM2.out, HR.out]
      rintro e w3 ⟨rfl, rfl⟩
      go_wp2
      go_ret
      exact ⟨rfl, HB2.out⟩
  · go_enter Tryd.func4, Tryd.ntmps4
    go_wp2_with fail
    refine HH.out.mono ?_
    rintro e w1 ⟨rfl, hb1⟩
    have HB1 := Lib.hid hb1
    clear hb1
    go_wp2
    go_ret
    exact ⟨rfl, HB1.out⟩

end Go.Proofs.YtfgdcajhnbhhkaaDoor
