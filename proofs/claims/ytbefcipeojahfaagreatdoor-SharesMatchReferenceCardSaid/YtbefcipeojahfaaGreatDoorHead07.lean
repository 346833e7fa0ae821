/- observatoryref07.Same and the examples of observatorylaw07.head. -/
import Derived.Test.YtbefcipeojahfaaGreatDoorLaw07
import Derived.Test.YtbefcipeojahfaaGreatDoorJoinL
namespace Go.Proofs.YtbefcipeojahfaaGreatDoor
open Go.RowKit

set_option maxRecDepth 100000 in
set_option maxRecDepth 100000 in
set_option maxHeartbeats 1600000 in
theorem same_any (A B : Option Addr) (c d : Nat) (l m : List (Int × Int)) (w : World) (hA : Prs w A l) (hB : Prs w B m) (hl : l.length ≤ 1000000) (_hm : m.length ≤ 1000000) :
    Calls Tryz.prog 13 #[.slice A l.length c, .slice B m.length d] w fun e w' => e = .returned (.bool (decide (l = m))) ∧ ∃ q, w' = w.drewN q := by
  have HA := Lib.hid hA; clear hA
  have HB := Lib.hid hB; clear hB
  by_cases hlen : l.length = m.length
  · have h1 : (((l.length : Int)) == (m.length : Int)) = true := by simp [hlen]
    have h2 : (((l.length : Int)) != (m.length : Int)) = false := by simp [hlen]
    have HL := Lib.hid hlen; clear hlen
    go_enter Tryz.func13, Tryz.ntmps13
    go_wp2_with fail
    go_loopw [5] (fun u5 wr => ∃ (k q : Nat), k ≤ l.length ∧ u5 = .int .i64 k ∧ wr = w.drewN q ∧ l.take k = m.take k) (fun u5 _ => l.length - (intOf u5).toNat)
    case atStart => exact ⟨0, 0, Nat.zero_le _, rfl, rfl, rfl⟩
    case round =>
      obtain ⟨k, q, hk, rfl, rfl, hkm⟩ := hrel
      have HKM := Lib.hid hkm; clear hkm
      by_cases hlt : k < l.length
      · obtain ⟨s, hs⟩ := get_some l k hlt
        obtain ⟨t, ht⟩ := get_some m k (by rw [← HL.out]; exact hlt)
        have hmk : k < m.length := (List.getElem?_eq_some_iff.1 ht).1
        obtain ⟨b, off, rfl, hc1, hc2⟩ := HA.out.at_ hs
        obtain ⟨b', off', rfl, hd1, hd2⟩ := HB.out.at_ ht
        have HS := Lib.hid hs
        have HT := Lib.hid ht
        clear hs ht
        by_cases hst : s = t
        · have e1 : (s.1 == t.1) = true := by simp [hst]
          have e2 : (s.2 == t.2) = true := by simp [hst]
          have HST := Lib.hid hst; clear hst
          go_wp2
          go_quiet (fail)
          go_wp2
          go_roundw
          case rel => exact ⟨k + 1, _, by omega, by go_num, rfl, by rw [take_snoc l k s HS.out, take_snoc m k t HT.out, HKM.out, HST.out]⟩
          case measure => simp [intOf]; omega
        · have hne : decide (l = m) = false := by
            rw [decide_eq_false_iff_not]
            intro e
            have h1 := HS.out
            have h2 := HT.out
            rw [e, h2] at h1
            exact hst (Option.some.inj h1).symm
          have HNE := Lib.hid hne; clear hne
          by_cases h1 : s.1 = t.1
          · have e1 : (s.1 == t.1) = true := by simp [h1]
            have e2 : (s.2 == t.2) = false := by simp; intro h2; exact hst (Prod.ext h1 h2)
            clear h1 hst
            go_wp2
            go_quiet (fail)
            go_wp2
            go_ret
            rw [HNE.out]
            exact ⟨rfl, _, by rw [World.drewN_drewN]⟩
          · have e1 : (s.1 == t.1) = false := by simp [h1]
            clear h1 hst
            go_wp2
            go_quiet (fail)
            go_wp2
            go_ret
            rw [HNE.out]
            exact ⟨rfl, _, by rw [World.drewN_drewN]⟩
      · have he : decide (l = m) = true := by
          have := HKM.out
          have hl := HL.out
          rw [List.take_of_length_le (by omega), List.take_of_length_le (by omega)] at this
          simpa using this
        have HE := Lib.hid he; clear he
        go_wp2
        go_ret
        rw [HE.out]
        exact ⟨rfl, _, rfl⟩
  · have h1 : (((l.length : Int)) == (m.length : Int)) = false := by simp; omega
    have h2 : (((l.length : Int)) != (m.length : Int)) = true := by simp; omega
    have hne : decide (l = m) = false := by
      rw [decide_eq_false_iff_not]
      intro e
      exact hlen (by rw [e])
    have HNE := Lib.hid hne; clear hne hlen
    go_enter Tryz.func13, Tryz.ntmps13
    go_wp2
    go_ret
    rw [HNE.out]
    exact ⟨rfl, 0, rfl⟩

/-! ### the examples -/
theorem on_two : On [7, 5] [(3, 22), (1, 12)] := ⟨by simp, by simp [evp], by decide⟩
theorem on_three : On [7, 5] [(1, 12), (2, 17), (3, 22)] := ⟨by simp, by simp [evp], by decide⟩
theorem ex1 : joinF [(3, 22), (1, 12)] (2 : Nat) = (7, 0) := joinF_on [7, 5] 2 _ on_two (by omega) (by omega) (by simp) (by simp)
theorem ex2 : joinF [(3, 22)] (2 : Nat) = (0, 25) := joinF_on_few [7, 5] 2 _ (on_two.sublist (by simp)) (by omega) (by omega) (by simp)
theorem ex3 : joinF [(1, 12), (1, 12)] (2 : Nat) = (0, 8) := joinF_dup _ _ (by omega) (by omega) (by decide) (by decide)
theorem ex4 : joinF [(1, 12), (2, 17), (3, 23)] (2 : Nat) = (0, 24) := joinF_on_wrong [7, 5] 2 _ on_three (by omega) (by omega) (by simp) (by simp) 2 (3, 22) rfl 23 (by omega) (by omega) (by simp)
theorem ex5 : shs [7, 5] 3 = [(1, 12), (2, 17), (3, 22)] := by decide

set_option maxRecDepth 100000 in
set_option maxRecDepth 100000 in
set_option maxHeartbeats 4000000 in
theorem head_any (w : World) : Calls Tryz.prog 5 #[] w fun e w' => e = .returned (.bool true) ∧ Below w.heap.size w w' := by
  go_enter Tryz.func5, Tryz.ntmps5
  go_wp2_with fail
  refine (split_any 7 2 3 _ _ [5] _ (Ints_new w #[.int .i64 5] _ _ [5] rfl rfl) (by omega) (by omega) (by omega) (by simp) (by simp) rfl).mono ?_
  rintro e w1 ⟨v1, rfl, hown1, hb1⟩
  obtain ⟨A1, c1, rfl, -, -, hrd1⟩ := Rd.of_own hown1
  rw [ex5] at hrd1
  have hP1 : Prs w1 A1 [(1, 12), (2, 17), (3, 22)] := hrd1
  have HB1 := Lib.hid (below_trans (below_alloc (Below.refl _ _) _) hb1)
  have HP1 := Lib.hid hP1
  clear hown1 hb1 hrd1 hP1
  go_wp2_with fail
  refine (join_full _ _ [(3, 22), (1, 12)] (2 : Nat) _ (Prs_new w1 #[.int .i64 3, .int .i64 22, .int .i64 1, .int .i64 12] _ _ _ rfl rfl) (by simp) (by simp)).mono ?_
  rintro e w2 ⟨rfl, hb2⟩
  rw [ex1]
  have HB2 := Lib.hid (below_trans (below_alloc (Below.refl w1.heap.size w1) _) hb2)
  clear hb2
  go_wp2_with fail
  refine (join_full _ _ [(3, 22)] (2 : Nat) _ (Prs_new w2 #[.int .i64 3, .int .i64 22] _ _ _ rfl rfl) (by simp) (by simp)).mono ?_
  rintro e w3 ⟨rfl, hb3⟩
  rw [ex2]
  have HB3 := Lib.hid (below_trans HB2.out (below_trans (below_alloc (Below.refl w2.heap.size w2) _) hb3))
  clear hb3
  go_wp2_with fail
  refine (join_full _ _ [(1, 12), (1, 12)] (2 : Nat) _ (Prs_new w3 #[.int .i64 1, .int .i64 12, .int .i64 1, .int .i64 12] _ _ _ rfl rfl) (by simp) (by simp)).mono ?_
  rintro e w4 ⟨rfl, hb4⟩
  rw [ex3]
  have HB4 := Lib.hid (below_trans HB3.out (below_trans (below_alloc (Below.refl w3.heap.size w3) _) hb4))
  clear hb4
  go_wp2_with fail
  refine (join_full _ _ [(1, 12), (2, 17), (3, 23)] (2 : Nat) _ (Prs_new w4 #[.int .i64 1, .int .i64 12, .int .i64 2, .int .i64 17, .int .i64 3, .int .i64 23] _ _ _ rfl rfl) (by simp) (by simp)).mono ?_
  rintro e w5 ⟨rfl, hb5⟩
  rw [ex4]
  have HB5 := Lib.hid (below_trans HB4.out (below_trans (below_alloc (Below.refl w4.heap.size w4) _) hb5))
  clear hb5
  go_wp2_with fail
  refine (same_any _ _ _ _ [(1, 12), (2, 17), (3, 22)] [(1, 12), (2, 17), (3, 22)] _ ((HP1.out.below HB5.out).below (below_alloc (Below.refl _ _) _)) (Prs_new w5 #[.int .i64 1, .int .i64 12, .int .i64 2, .int .i64 17, .int .i64 3, .int .i64 22] _ _ _ rfl rfl) (by simp) (by simp)).mono ?_
  rintro e w6 ⟨rfl, q, rfl⟩
  go_wp2
  go_ret
  exact ⟨rfl, below_drewN (below_trans HB1.out (below_alloc HB5.out _)) q⟩

end Go.Proofs.YtbefcipeojahfaaGreatDoor
