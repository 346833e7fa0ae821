/- The law DigestShort: the walk. -/
import Derived.Test.YtfgdcajhnbhhkaaDoorPureD01
import Derived.Test.YtfgdcajhnbhhkaaDoorLaid01
import Derived.Test.YtfgdcajhnbhhkaaDoorOpen
namespace Go.Proofs.YtfgdcajhnbhhkaaDoor
open Go.RowKit

set_option maxRecDepth 100000 in
set_option maxHeartbeats 8000000 in
theorem short_walk (a b : ByteArray) (w : World) (hT : Tabs w) (ha : a.size ≤ maxLen) (hb : b.size ≤ maxLen) :
    Calls Tryd.prog 6 #[.string a, .string b] w fun e w' => e = .returned (.bool true) ∧ Below w.heap.size w w' := by
  unfold maxLen at ha hb
  have HS : Hid (∀ (t : ByteArray) (w' : World), t.size ≤ 1000000000 → Below w.heap.size w w' → Calls Tryd.prog 12 #[.string t] w' fun e w'' => e = .returned (.string (dg t)) ∧ Below w.heap.size w w'') := Lib.hid (fun t w' ht hb => (sum_any t ht w' (hT.below hb).t64).mono fun _ _ ⟨he, h2⟩ => ⟨he, below_trans hb h2⟩)
  have HIS : Hid (∀ (t : ByteArray) (w' : World), isD t = true → t.size ≤ 1000000000 → Below w.heap.size w w' → Calls Tryd.prog 18 #[.string t] w' fun e w'' => e = .returned (.bool true) ∧ Below w.heap.size w w'') := Lib.hid (fun t w' hv ht hb => (is_any t w' ht).mono fun _ _ ⟨he, h2⟩ => ⟨by rw [he, hv], below_trans hb h2⟩)
  have HCH : Hid (∀ (t : ByteArray) (n : Int) (w' : World), t.size ≤ 1000000000 → Below w.heap.size w w' → Calls Tryd.prog 16 #[.string t, .int .i64 n] w' fun e w'' => e = .returned (.string (chn t (times n))) ∧ Below w.heap.size w w'') := Lib.hid (fun t n w' ht hb => (chain_any t n w' ht (hT.below hb).t64).mono fun _ _ ⟨he, h2⟩ => ⟨he, below_trans hb h2⟩)
  have HH := Lib.hid (head_any w hT)
  clear hT
  obtain ⟨p, hp⟩ : ∃ p, min a.size 7 = p := ⟨_, rfl⟩
  obtain ⟨q, hq⟩ : ∃ q, min b.size 7 = q := ⟨_, rfl⟩
  have m1 : min (a.size : Int) 7 = (p : Int) := by omega
  have m2 : min (b.size : Int) 7 = (q : Int) := by omega
  have hp1 : p ≤ a.size := by omega
  have hq1 : q ≤ b.size := by omega
  have hp7 : p ≤ 7 := by omega
  have hq7 : q ≤ 7 := by omega
  obtain ⟨x, hx⟩ : ∃ x, a.extract 0 p = x := ⟨_, rfl⟩
  obtain ⟨y, hy⟩ : ∃ y, b.extract 0 q = y := ⟨_, rfl⟩
  have hxz : x.size ≤ 7 := by rw [← hx, ByteArray.size_extract]; omega
  have hyz : y.size ≤ 7 := by rw [← hy, ByteArray.size_extract]; omega
  have HE := Lib.hid (short_eq x y hxz hyz)
  have HX := Lib.hid hx
  have HY := Lib.hid hy
  clear hx hy hp hq
  by_cases hxy : x = y
  · subst hxy
    obtain ⟨d, hd⟩ : ∃ d, dg x = d := ⟨_, rfl⟩
    have HD := Lib.hid hd
    have t1 := beq_true d
    have t2 := beq_true x
    clear hd
    go_enter Tryd.func6, Tryd.ntmps6
    go_wp2_with fail
    refine HH.out.mono ?_
    rintro e w1 ⟨rfl, hb1⟩
    have HB1 := Lib.hid hb1
    clear hb1
    go_wp2_with fail
    rw [HX.out, HY.out]
    refine (HS.out x w1 (by omega) HB1.out).mono ?_
    rw [HD.out]
    rintro e w2 ⟨rfl, hb2⟩
    have HB2 := Lib.hid hb2
    clear hb2
    go_wp2_with fail
    refine (HS.out x w2 (by omega) HB2.out).mono ?_
    rw [HD.out]
    rintro e w3 ⟨rfl, hb3⟩
    have HB3 := Lib.hid hb3
    clear hb3
    go_wp2
    go_ret
    exact ⟨rfl, HB3.out⟩
  · have hne : dg x ≠ dg y := fun h => hxy (HE.out.1 h)
    obtain ⟨d, hd⟩ : ∃ d, dg x = d := ⟨_, rfl⟩
    obtain ⟨d', hd'⟩ : ∃ d, dg y = d := ⟨_, rfl⟩
    rw [hd, hd'] at hne
    have HD := Lib.hid hd
    have HD' := Lib.hid hd'
    obtain ⟨t1, t2⟩ := bne_of d d' hne
    obtain ⟨t3, t4⟩ := bne_of x y hxy
    clear hd hd' hne hxy
    go_enter Tryd.func6, Tryd.ntmps6
    go_wp2_with fail
    refine HH.out.mono ?_
    rintro e w1 ⟨rfl, hb1⟩
    have HB1 := Lib.hid hb1
    clear hb1
    go_wp2_with fail
    rw [HX.out, HY.out]
    refine (HS.out x w1 (by omega) HB1.out).mono ?_
    rw [HD.out]
    rintro e w2 ⟨rfl, hb2⟩
    have HB2 := Lib.hid hb2
    clear hb2
    go_wp2_with fail
    refine (HS.out y w2 (by omega) HB2.out).mono ?_
    rw [HD'.out]
    rintro e w3 ⟨rfl, hb3⟩
    have HB3 := Lib.hid hb3
    clear hb3
    go_wp2
    go_ret
    exact ⟨rfl, HB3.out⟩

end Go.Proofs.YtfgdcajhnbhhkaaDoor
