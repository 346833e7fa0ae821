/- Layer 2: total, proper, Root. -/
import Derived.Test.YtbefcipeojahfaaGreatDoorTree02
import Derived.Laws.EntriesVeiled
namespace Go.Proofs.YtbefcipeojahfaaGreatDoor
open Go.RowKit

set_option maxRecDepth 100000 in
set_option maxHeartbeats 4000000 in
theorem total_any (A : Option Addr) (c : Nat) (l : List ByteArray) (w : World) (hbig : l.length ≤ 1000000) (hcap : l.length ≤ c) (hS : Strs w A l) (hsm : sm l) (hT : Tabs w) :
    Calls Tryz.prog 42 #[.slice A l.length c] w fun e w' => e = .returned (.string (rt l)) ∧ Below w.heap.size w w' := by
  obtain ⟨wf, hwf⟩ : ∃ wf, (w.alloc (.cells #[.func (.func 70) #[] #[.pointer (some ⟨w.heap.size, 0, none⟩)]] 45)) = wf := ⟨_, rfl⟩
  have HBF : Hid (Below w.heap.size w wf) := Lib.hid (by rw [← hwf]; exact below_alloc (Below.refl _ _) _)
  have HCF : Hid (wf.cell? ⟨w.heap.size, 0, none⟩ = some (.func (.func 70) #[] #[.pointer (some ⟨w.heap.size, 0, none⟩)])) := Lib.hid (by rw [← hwf]; simp)
  by_cases h0 : l.length = 0
  · obtain rfl : l = [] := List.eq_nil_of_length_eq_zero h0
    rw [rt_nil]
    have HL := Lib.hid (list_any (some ⟨wf.heap.size, 0, none⟩) 1 [bEmpty] (wf.alloc (.cells #[.string bEmpty] 9)) (Strs_new _ _ _ _ _ rfl rfl) (hT.below (below_alloc HBF.out _)) (by have := jn_few [bEmpty] (by intro s hs; rw [List.mem_singleton.1 hs]; decide); simp only [List.length_singleton] at this; omega) (by simp))
    have HB2 : Hid (Below w.heap.size w (wf.alloc (.cells #[.string bEmpty] 9))) := Lib.hid (below_alloc HBF.out _)
    unfold bEmpty at HL HB2
    clear hT
    go_enter Tryz.func42, Tryz.ntmps42
    go_wp2_with fail
    refine HL.out.mono ?_
    rintro e w1 ⟨rfl, hb1⟩
    have HB1 := Lib.hid (below_trans HB2.out hb1)
    clear hb1
    go_wp2
    go_ret
    exact ⟨rfl, HB1.out⟩
  · have HC := Lib.hid ((totalc_any l.length w.heap.size A c l wf (Nat.le_refl _) (by omega) hbig hcap HCF.out (hS.below HBF.out) hsm (hT.below HBF.out)).mono fun _ _ ⟨he, hb⟩ => (⟨he, below_trans HBF.out hb⟩ : _ ∧ Below w.heap.size w _))
    have HWF := Lib.hid hwf
    clear hS hsm hT hwf
    have hl1 : ¬ l.length = 0 := h0
    generalize rt l = r at *
    generalize l.length = m at *
    have hl2 : ((m : Int) == 0) = false := by simp; omega
    go_enter Tryz.func42, Tryz.ntmps42
    go_wp2_with fail
    rw [HWF.out]
    refine HC.out.mono ?_
    rintro e w1 ⟨rfl, hb1⟩
    have HB1 := Lib.hid hb1
    clear hb1
    go_wp2
    go_ret
    exact ⟨rfl, HB1.out⟩

/-! ### proper -/
theorem notis_any (s : ByteArray) (hs : s.size ≤ 1000000000) (w : World) : Calls Tryz.prog 69 #[.string s] w fun e w' => e = .returned (.bool (!isD s)) ∧ Below w.heap.size w w' := by
  have H := Lib.hid (is_any s w hs)
  go_enter Tryz.func69, Tryz.ntmps69
  go_wp2_with fail
  refine H.out.mono ?_
  rintro e w1 ⟨rfl, hb1⟩
  have HB1 := Lib.hid hb1
  clear hb1
  go_wp2
  go_ret
  exact ⟨rfl, HB1.out⟩

def badAt (l : List ByteArray) : Int := match l.findIdx? (fun s => !isD s) with | some i => i | none => -1
set_option maxHeartbeats 4000000 in
theorem idx_any (A : Option Addr) (c : Nat) (l : List ByteArray) (w : World) (hbig : l.length ≤ 1000000) (hS : Strs w A l) (hsm : ∀ s, s ∈ l → s.size ≤ 1000000000) :
    Calls Tryz.prog 88 #[.slice A l.length c, .func (.func 69) #[] #[]] w fun e w' => (∃ v : Int, e = .returned (.int .i64 v) ∧ (0 ≤ v ↔ allD l = false)) ∧ Below w.heap.size w w' := by
  have HS := Lib.hid hS
  have HSM := Lib.hid hsm
  clear hS hsm
  go_enter Tryz.func88, Tryz.ntmps88
  go_wp2_with fail
  go_loopw [8] (fun u8 wr => ∃ k : Nat, k ≤ l.length ∧ u8 = .int .i64 k ∧ allD (l.take k) = true ∧ Below w.heap.size w wr) (fun u8 _ => l.length - (intOf u8).toNat)
  case atStart => exact ⟨0, Nat.zero_le _, rfl, rfl, Below.refl _ _⟩
  case round =>
    obtain ⟨k, hk, rfl, hall, hb⟩ := hrel
    have HALL := Lib.hid hall
    have HB := Lib.hid hb
    clear hall hb
    by_cases hlt : k < l.length
    · obtain ⟨s, hs⟩ := get_some l k hlt
      obtain ⟨b, off, rfl, c0⟩ := (HS.out.below HB.out).at_ hs
      have c0l := lt_of_cell c0
      have HC := Lib.hid (notis_any s (HSM.out s (List.mem_of_getElem? hs)) wr)
      have hall2 : allD (l.take (k + 1)) = isD s := by
        have := all_take_succ isD l k s hs
        unfold allD at HALL ⊢
        rw [this, HALL.out, Bool.true_and]
      have HA2 := Lib.hid hall2
      have hmem : s ∈ l := List.mem_of_getElem? hs
      have hbad : isD s = false → allD l = false := fun h => by
        unfold allD
        rw [List.all_eq_false]
        exact ⟨s, hmem, by simp [h]⟩
      have HBAD := Lib.hid hbad
      clear hs hall2 hbad hmem
      obtain ⟨v, hv⟩ : ∃ v, isD s = v := ⟨_, rfl⟩
      rw [hv] at HC HA2 HBAD
      clear hv
      go_wp2_with fail
      refine HC.out.mono ?_
      rintro e w1 ⟨rfl, hb1⟩
      have HB1 := Lib.hid (below_trans HB.out hb1)
      clear hb1
      cases v with
      | true =>
        go_wp2
        go_roundw
        case rel => exact ⟨k + 1, by omega, by go_num, HA2.out, HB1.out⟩
        case measure => simp [intOf]; omega
      | false =>
        go_wp2
        go_ret
        exact ⟨⟨k, rfl, fun _ => by first | exact HBAD.out rfl | exact HBAD.out trivial, fun _ => Int.natCast_nonneg k⟩, HB1.out⟩
    · obtain rfl : k = l.length := by omega
      rw [List.take_length] at HALL
      go_wp2
      go_ret
      exact ⟨⟨-1, rfl, by rw [HALL.out]; simp⟩, HB.out⟩

set_option maxHeartbeats 1600000 in
theorem proper_any (A : Option Addr) (c : Nat) (l : List ByteArray) (w : World) (hbig : l.length ≤ 1000000) (hS : Strs w A l) (hsm : ∀ s, s ∈ l → s.size ≤ 1000000000) :
    Calls Tryz.prog 40 #[.slice A l.length c] w fun e w' => e = .returned (.bool (allD l)) ∧ Below w.heap.size w w' := by
  have H := Lib.hid (idx_any A c l w hbig hS hsm)
  clear hS hsm
  have HC : Hid (Calls Tryz.prog 68 #[.slice A l.length c, .func (.func 69) #[] #[]] w fun e w' => e = .returned (.bool (!allD l)) ∧ Below w.heap.size w w') := Lib.hid (by
    go_enter Tryz.func68, Tryz.ntmps68
    go_wp2_with fail
    refine H.out.mono ?_
    rintro e w1 ⟨⟨v, rfl, hv⟩, hb1⟩
    have HB1 := Lib.hid hb1
    have HV := Lib.hid hv
    clear hb1 hv
    go_wp2
    go_ret
    refine ⟨ret_bool ?_, HB1.out⟩
    have := HV.out
    cases h : allD l <;> rw [h] at this <;> simp at this <;> simp [this])
  go_enter Tryz.func40, Tryz.ntmps40
  go_wp2_with fail
  refine HC.out.mono ?_
  rintro e w1 ⟨rfl, hb1⟩
  have HB1 := Lib.hid hb1
  clear hb1
  go_wp2
  go_ret
  exact ⟨ret_bool (by simp), HB1.out⟩

set_option maxHeartbeats 1600000 in
theorem root_any (A : Option Addr) (c : Nat) (l : List ByteArray) (w : World) (hbig : l.length ≤ 1000000) (hcap : l.length ≤ c) (hS : Strs w A l) (hsm : sm l) (hT : Tabs w) :
    Calls Tryz.prog 36 #[.slice A l.length c] w fun e w' => e = .returned (.tuple #[.string (if allD l then rt l else ByteArray.empty), .int .i64 (if allD l then 0 else 1)]) ∧ Below w.heap.size w w' := by
  have HP := Lib.hid (proper_any A c l w hbig hS (fun s hs => by have := hsm s hs; omega))
  have HT : Hid (∀ W, Below w.heap.size w W → Calls Tryz.prog 42 #[.slice A l.length c] W fun e w' => e = .returned (.string (rt l)) ∧ Below w.heap.size w w') := Lib.hid (fun W hW => (total_any A c l W hbig hcap (hS.below hW) hsm (hT.below hW)).mono fun _ _ ⟨he, hb⟩ => ⟨he, below_trans hW hb⟩)
  clear hS hsm hT
  cases hv : allD l
  all_goals
    rw [hv] at HP
    clear hv
    go_enter Tryz.func36, Tryz.ntmps36
    go_wp2_with fail
    refine HP.out.mono ?_
    rintro e w1 ⟨rfl, hb1⟩
    have HB1 := Lib.hid hb1
    clear hb1
    go_wp2_with fail
  · go_ret2
    exact ⟨rfl, HB1.out⟩
  · refine (HT.out w1 HB1.out).mono ?_
    rintro e w2 ⟨rfl, hb2⟩
    have HB2 := Lib.hid hb2
    clear hb2
    go_wp2
    go_ret2
    exact ⟨rfl, HB2.out⟩

end Go.Proofs.YtbefcipeojahfaaGreatDoor
