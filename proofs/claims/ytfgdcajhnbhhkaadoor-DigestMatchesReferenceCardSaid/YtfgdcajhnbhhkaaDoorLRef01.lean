/- The law DigestMatchesReference: the walk. -/
import Derived.Test.YtfgdcajhnbhhkaaDoorRef04
import Derived.Test.YtfgdcajhnbhhkaaDoorLLong01
namespace Go.Proofs.YtfgdcajhnbhhkaaDoor
open Go.RowKit

set_option maxRecDepth 100000 in
set_option maxHeartbeats 16000000 in
theorem ref_walk (t : ByteArray) (A : Option Addr) (c : Nat) (l : List ByteArray) (n : Int) (w : World) (hT : Tabs w) (ht : t.size ≤ maxLen) (hA : Strs w A l) (hl : l.length ≤ 9223372036854775807) :
    Calls Tryd.prog 3 #[.string t, .slice A l.length c, .int .i64 n] w fun e w' => e = .returned (.bool true) ∧ Below w.heap.size w w' := by
  unfold maxLen at ht
  have HS : Hid (∀ (t : ByteArray) (w' : World), t.size ≤ 1000000000 → Below w.heap.size w w' → Calls Tryd.prog 12 #[.string t] w' fun e w'' => e = .returned (.string (dg t)) ∧ Below w.heap.size w w'') := Lib.hid (fun t w' ht hb => (sum_any t ht w' (hT.below hb).t64).mono fun _ _ ⟨he, h2⟩ => ⟨he, below_trans hb h2⟩)
  have HCH : Hid (∀ (t : ByteArray) (n : Int) (w' : World), t.size ≤ 1000000000 → Below w.heap.size w w' → Calls Tryd.prog 16 #[.string t, .int .i64 n] w' fun e w'' => e = .returned (.string (chn t (times n))) ∧ Below w.heap.size w w'') := Lib.hid (fun t n w' ht hb => (chain_any t n w' ht (hT.below hb).t64).mono fun _ _ ⟨he, h2⟩ => ⟨he, below_trans hb h2⟩)
  have HH := Lib.hid (head_any w hT)
  have HA : Hid (∀ w', Below w.heap.size w w' → Strs w' A l) := Lib.hid (fun w' hb => hA.below hb)
  have HT : Hid (∀ w', Below w.heap.size w w' → Tabs w') := Lib.hid (fun w' hb => hT.below hb)
  clear hT hA
  obtain ⟨q, hq⟩ : ∃ q, n.tmod 40 = q := ⟨_, rfl⟩
  have hq1 : -40 < q := by rw [← hq]; exact Int.lt_tmod_of_pos n (by decide)
  have hq2 : q < 40 := by rw [← hq]; exact Int.tmod_lt_of_pos n (by decide)
  obtain ⟨u, hu⟩ : ∃ u, isD t = u := ⟨_, rfl⟩
  have HU := Lib.hid hu
  obtain ⟨v, hv⟩ : ∃ v, fewB l 200 = v := ⟨_, rfl⟩
  have HV := Lib.hid hv
  clear hv hu
  by_cases h2000 : t.size ≤ 2000
  · cases v with
    | false =>
      go_enter Tryd.func3, Tryd.ntmps3
      go_wp2_with fail
      refine HH.out.mono ?_
      rintro e w1 ⟨rfl, hb1⟩
      have HB1 := Lib.hid hb1
      clear hb1
      have hf := few_any A c l 200 w1 (HA.out _ HB1.out) hl
      rw [HV.out] at hf
      have HF := Lib.hid hf
      clear hf
      go_wp2_with fail
      refine HF.out.mono ?_
      rintro e _ ⟨rfl, rfl⟩
      go_wp2
      go_ret
      exact ⟨rfl, HB1.out⟩
    | true =>
      obtain ⟨hj, hl30, hsm⟩ := few_jn HV.out
      have HSM := Lib.hid hsm
      clear hsm
      obtain ⟨d1, hd1⟩ : ∃ d, dg t = d := ⟨_, rfl⟩
      obtain ⟨d2, hd2⟩ : ∃ d, dg ⟨(jn l).toArray⟩ = d := ⟨_, rfl⟩
      obtain ⟨d3, hd3⟩ : ∃ d, chn t (times q) = d := ⟨_, rfl⟩
      have HD := Lib.hid hd1
      have HD2 := Lib.hid hd2
      have HD3 := Lib.hid hd3
      have t1 := beq_true d1
      have t2 := beq_true d2
      have t3 := beq_true d3
      clear hd1 hd2 hd3
      have HJ := Lib.hid hj
      clear hj
      go_enter Tryd.func3, Tryd.ntmps3
      go_wp2_with fail
      refine HH.out.mono ?_
      rintro e w1 ⟨rfl, hb1⟩
      have HB1 := Lib.hid hb1
      clear hb1
      have hf := few_any A c l 200 w1 (HA.out _ HB1.out) hl
      rw [HV.out] at hf
      have HF := Lib.hid hf
      clear hf
      go_wp2_with fail
      refine HF.out.mono ?_
      rintro e _ ⟨rfl, rfl⟩
      go_wp2_with fail
      refine (HS.out t w1 (by omega) HB1.out).mono ?_
      rw [HD.out]
      rintro e w2 ⟨rfl, hb2⟩
      have HB2 := Lib.hid hb2
      clear hb2
      go_wp2_with fail
      refine (rsum t (by omega) w2).mono ?_
      rw [HD.out]
      rintro e w3 ⟨rfl, rfl⟩
      go_wp2_with fail
      refine (list_any A c l w2 (HA.out _ HB2.out) (HT.out _ HB2.out) (by have := HJ.out; omega) (by omega)).mono ?_
      rw [HD2.out]
      rintro e w4 ⟨rfl, hb4⟩
      have HB4 := Lib.hid (below_trans HB2.out hb4)
      clear hb4
      go_wp2_with fail
      refine (rlist A c l w4 (HA.out _ HB4.out) hl30 HSM.out).mono ?_
      rw [HD2.out]
      rintro e w5 ⟨rfl, hb5⟩
      have HB5 := Lib.hid (below_trans HB4.out hb5)
      clear hb5
      go_wp2_with fail
      refine (HCH.out t q w5 (by omega) HB5.out).mono ?_
      rw [HD3.out]
      rintro e w6 ⟨rfl, hb6⟩
      have HB6 := Lib.hid hb6
      clear hb6
      go_wp2_with fail
      refine (rchain t q w6 (by omega) (by omega)).mono ?_
      rw [HD3.out]
      rintro e w7 ⟨rfl, rfl⟩
      go_wp2_with fail
      refine (is_any t w6 (by omega)).mono ?_
      rw [HU.out]
      rintro e w8 ⟨rfl, hb8⟩
      have HB8 := Lib.hid (below_trans HB6.out hb8)
      clear hb8
      go_wp2_with fail
      refine (ris t (by omega) w8).mono ?_
      rw [HU.out]
      rintro e w9 ⟨rfl, rfl⟩
      go_wp2
      go_ret
      exact ⟨ret_bool (by cases u <;> rfl), HB8.out⟩
  · clear HV
    go_enter Tryd.func3, Tryd.ntmps3
    go_wp2_with fail
    refine HH.out.mono ?_
    rintro e w1 ⟨rfl, hb1⟩
    have HB1 := Lib.hid hb1
    clear hb1
    go_wp2
    go_ret
    exact ⟨rfl, HB1.out⟩

end Go.Proofs.YtfgdcajhnbhhkaaDoor
