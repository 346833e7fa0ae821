/- The law DigestChains: the walk. -/
import Derived.Test.YtfgdcajhnbhhkaaDoorHead01
import Derived.Test.YtfgdcajhnbhhkaaDoorLaid01
import Derived.Test.YtfgdcajhnbhhkaaDoorOpen
namespace Go.Proofs.YtfgdcajhnbhhkaaDoor
open Go.RowKit

theorem chn_chn (t : ByteArray) (a b : Nat) : chn (chn t a) b = chn t (a + b) := by
  induction b with
  | zero => rfl
  | succ b ih => rw [chn, ih]; rfl
theorem times_nat (n : Nat) (h : n ≤ 1000) : times (n : Int) = n := by unfold times; omega

set_option maxRecDepth 100000 in
set_option maxHeartbeats 8000000 in
theorem chains_walk (t : ByteArray) (x y : UInt8) (w : World) (hT : Tabs w) :
    Calls Tryd.prog 8 #[.string t, .int .u8 x.toNat, .int .u8 y.toNat] w fun e w' => e = .returned (.bool true) ∧ Below w.heap.size w w' := by
  have HT : Hid (∀ w', Below w.heap.size w w' → Tabs w') := Lib.hid (fun w' hb => hT.below hb)
  have hx := x.toNat_lt
  have hy := y.toNat_lt
  obtain ⟨a, ha⟩ : ∃ a, x.toNat = a := ⟨_, rfl⟩
  obtain ⟨b, hb⟩ : ∃ b, y.toNat = b := ⟨_, rfl⟩
  rw [ha] at hx ⊢
  rw [hb] at hy ⊢
  clear ha hb
  obtain ⟨p, hp⟩ : ∃ p, a % 51 = p := ⟨_, rfl⟩
  obtain ⟨q, hq⟩ : ∃ q, b % 51 = q := ⟨_, rfl⟩
  have hp1 : p ≤ 50 := by omega
  have hq1 : q ≤ 50 := by omega
  have HP : Hid ((a : Int) % 51 = (p : Int)) := Lib.hid (by omega)
  have HQ : Hid ((b : Int) % 51 = (q : Int)) := Lib.hid (by omega)
  have HH := Lib.hid (head_any w hT)
  have HCH : Hid (∀ (t : ByteArray) (n : Nat) (w' : World), n ≤ 1000 → t.size ≤ 1000000000 → Below w.heap.size w w' → Calls Tryd.prog 16 #[.string t, .int .i64 (n : Int)] w' fun e w'' => e = .returned (.string (chn t n)) ∧ Below w.heap.size w w'') := Lib.hid (fun t n w' hn ht hb => (chain_any t n w' ht (hT.below hb).t64).mono fun _ _ ⟨he, h2⟩ => ⟨by rw [he, times_nat n hn], below_trans hb h2⟩)
  clear hT hp hq
  by_cases ht : t.size ≤ 2000
  · go_enter Tryd.func8, Tryd.ntmps8
    go_wp2_with fail
    refine HH.out.mono ?_
    rintro e w1 ⟨rfl, hb1⟩
    have HB1 := Lib.hid hb1
    clear hb1
    go_wp2_with fail
    rw [HP.out, HQ.out]
    refine (HCH.out t p w1 (by omega) (by omega) HB1.out).mono ?_
    rintro e w2 ⟨rfl, hb2⟩
    have HB2 := Lib.hid hb2
    clear hb2
    go_wp2_with fail
    refine (HCH.out (chn t p) q w2 (by omega) (chn_size t p (by omega)) HB2.out).mono ?_
    rintro e w3 ⟨rfl, hb3⟩
    have HB3 := Lib.hid hb3
    clear hb3
    go_wp2_with fail
    have h4 := HCH.out t (p + q) w3 (by omega) (by omega) HB3.out
    rw [← chn_chn] at h4
    obtain ⟨r, hr⟩ : ∃ r, chn (chn t p) q = r := ⟨_, rfl⟩
    rw [hr] at h4 ⊢
    have t1 := beq_true r
    clear hr
    have h5 : ((p + q : Nat) : Int) = (p : Int) + (q : Int) := by omega
    rw [h5] at h4
    have H4 := Lib.hid h4
    clear h4 h5
    refine H4.out.mono ?_
    rintro e w4 ⟨rfl, hb4⟩
    have HB4 := Lib.hid hb4
    clear hb4
    go_wp2
    go_ret
    exact ⟨rfl, HB4.out⟩
  · go_enter Tryd.func8, Tryd.ntmps8
    go_wp2_with fail
    refine HH.out.mono ?_
    rintro e w1 ⟨rfl, hb1⟩
    have HB1 := Lib.hid hb1
    clear hb1
    go_wp2
    go_ret
    exact ⟨rfl, HB1.out⟩

end Go.Proofs.YtfgdcajhnbhhkaaDoor
