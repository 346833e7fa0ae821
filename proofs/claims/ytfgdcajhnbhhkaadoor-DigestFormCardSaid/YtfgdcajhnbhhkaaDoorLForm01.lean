/- The law DigestForm: the walk. -/
import Derived.Test.YtfgdcajhnbhhkaaDoorFew01
import Derived.Test.YtfgdcajhnbhhkaaDoorLaid01
import Derived.Test.YtfgdcajhnbhhkaaDoorOpen
namespace Go.Proofs.YtfgdcajhnbhhkaaDoor
open Go.RowKit

theorem isD_chn (t : ByteArray) (n : Nat) (h : 1 ≤ n) : isD (chn t n) = true := by
  obtain ⟨k, rfl⟩ : ∃ k, n = k + 1 := ⟨n - 1, by omega⟩
  exact isD_dg _

set_option maxRecDepth 100000 in
set_option maxHeartbeats 8000000 in
theorem form_walk (t : ByteArray) (A : Option Addr) (c : Nat) (l : List ByteArray) (x : UInt8) (w : World) (hT : Tabs w) (ht : t.size ≤ maxLen) (hA : Strs w A l) (hl : l.length ≤ 9223372036854775807) :
    Calls Tryd.prog 5 #[.string t, .slice A l.length c, .int .u8 x.toNat] w fun e w' => e = .returned (.bool true) ∧ Below w.heap.size w w' := by
  unfold maxLen at ht
  have HS : Hid (∀ (t : ByteArray) (w' : World), t.size ≤ 1000000000 → Below w.heap.size w w' → Calls Tryd.prog 12 #[.string t] w' fun e w'' => e = .returned (.string (dg t)) ∧ Below w.heap.size w w'') := Lib.hid (fun t w' ht hb => (sum_any t ht w' (hT.below hb).t64).mono fun _ _ ⟨he, h2⟩ => ⟨he, below_trans hb h2⟩)
  have HIS : Hid (∀ (t : ByteArray) (w' : World), isD t = true → t.size ≤ 1000000000 → Below w.heap.size w w' → Calls Tryd.prog 18 #[.string t] w' fun e w'' => e = .returned (.bool true) ∧ Below w.heap.size w w'') := Lib.hid (fun t w' hv ht hb => (is_any t w' ht).mono fun _ _ ⟨he, h2⟩ => ⟨by rw [he, hv], below_trans hb h2⟩)
  have HCH : Hid (∀ (t : ByteArray) (n : Int) (w' : World), t.size ≤ 1000000000 → Below w.heap.size w w' → Calls Tryd.prog 16 #[.string t, .int .i64 n] w' fun e w'' => e = .returned (.string (chn t (times n))) ∧ Below w.heap.size w w'') := Lib.hid (fun t n w' ht hb => (chain_any t n w' ht (hT.below hb).t64).mono fun _ _ ⟨he, h2⟩ => ⟨he, below_trans hb h2⟩)
  have HH := Lib.hid (head_any w hT)
  have HA : Hid (∀ w', Below w.heap.size w w' → Strs w' A l) := Lib.hid (fun w' hb => hA.below hb)
  have HT : Hid (∀ w', Below w.heap.size w w' → Tabs w') := Lib.hid (fun w' hb => hT.below hb)
  clear hT hA
  have hx := x.toNat_lt
  obtain ⟨a, ha⟩ : ∃ a, x.toNat = a := ⟨_, rfl⟩
  rw [ha] at hx ⊢
  clear ha
  obtain ⟨q, hq⟩ : ∃ q, 1 + a % 30 = q := ⟨_, rfl⟩
  have HQ : Hid ((1 : Int) + (a : Int) % 30 = (q : Int)) := Lib.hid (by omega)
  have hq1 : 1 ≤ q := by omega
  have hq2 : q ≤ 30 := by omega
  obtain ⟨v, hv⟩ : ∃ v, fewB l 200 = v := ⟨_, rfl⟩
  have HV := Lib.hid hv
  clear hq hv
  by_cases h2000 : t.size ≤ 2000
  · cases v with
    | false =>
      go_enter Tryd.func5, Tryd.ntmps5
      go_wp2_with fail
      refine HH.out.mono ?_
      rintro e w1 ⟨rfl, hb1⟩
      have HB1 := Lib.hid hb1
      clear hb1
      have hf := few_any A c l 200 w1 (HA.out _ HB1.out) hl
      rw [HV.out] at hf
      have HF := Lib.hid hf
      clear hf
      go_wp2_with fail
      refine HF.out.mono ?_
      rintro e _ ⟨rfl, rfl⟩
      go_wp2
      go_ret
      exact ⟨rfl, HB1.out⟩
    | true =>
      obtain ⟨hj, hl30, _⟩ := few_jn HV.out
      have HJ := Lib.hid hj
      clear hj
      go_enter Tryd.func5, Tryd.ntmps5
      go_wp2_with fail
      refine HH.out.mono ?_
      rintro e w1 ⟨rfl, hb1⟩
      have HB1 := Lib.hid hb1
      clear hb1
      have hf := few_any A c l 200 w1 (HA.out _ HB1.out) hl
      rw [HV.out] at hf
      have HF := Lib.hid hf
      clear hf
      go_wp2_with fail
      refine HF.out.mono ?_
      rintro e _ ⟨rfl, rfl⟩
      go_wp2_with fail
      refine (HS.out t w1 (by omega) HB1.out).mono ?_
      rintro e w2 ⟨rfl, hb2⟩
      have HB2 := Lib.hid hb2
      clear hb2
      go_wp2_with fail
      refine (HIS.out (dg t) w2 (isD_dg t) (by rw [dg_size]; omega) HB2.out).mono ?_
      rintro e w3 ⟨rfl, hb3⟩
      have HB3 := Lib.hid hb3
      clear hb3
      go_wp2_with fail
      refine (list_any A c l w3 (HA.out _ HB3.out) (HT.out _ HB3.out) (by have := HJ.out; omega) (by omega)).mono ?_
      rintro e w4 ⟨rfl, hb4⟩
      have HB4 := Lib.hid (below_trans HB3.out hb4)
      clear hb4
      go_wp2_with fail
      refine (HIS.out (dg _) w4 (isD_dg _) (by rw [dg_size]; omega) HB4.out).mono ?_
      rintro e w5 ⟨rfl, hb5⟩
      have HB5 := Lib.hid hb5
      clear hb5
      go_wp2_with fail
      rw [HQ.out]
      have hc := HCH.out t (q : Int) w5 (by omega) HB5.out
      have htm : times (q : Int) = q := by unfold times; omega
      rw [htm] at hc
      refine hc.mono ?_
      rintro e w6 ⟨rfl, hb6⟩
      have HB6 := Lib.hid hb6
      clear hb6 hc htm
      go_wp2_with fail
      refine (HIS.out (chn t q) w6 (isD_chn t q hq1) (chn_size t q (by omega)) HB6.out).mono ?_
      rintro e w7 ⟨rfl, hb7⟩
      have HB7 := Lib.hid hb7
      clear hb7
      go_wp2
      go_ret
      exact ⟨rfl, HB7.out⟩
  · clear HV
    go_enter Tryd.func5, Tryd.ntmps5
    go_wp2_with fail
    refine HH.out.mono ?_
    rintro e w1 ⟨rfl, hb1⟩
    have HB1 := Lib.hid hb1
    clear hb1
    go_wp2
    go_ret
    exact ⟨rfl, HB1.out⟩

end Go.Proofs.YtfgdcajhnbhhkaaDoor
