/- The reference of the digest: Digit, Is. -/
import Derived.Test.YtbefcipeojahfaaGreatDoorRef03
namespace Go.Proofs.YtbefcipeojahfaaGreatDoor
open Go.RowKit

def digv (c : UInt8) : Int := if 48 ≤ c.toNat ∧ c.toNat ≤ 57 then c.toNat - 48 else if 97 ≤ c.toNat ∧ c.toNat ≤ 102 then c.toNat - 87 else -1
theorem rdigit (c : UInt8) (w : World) : Calls Tryz.prog 87 #[.int .u8 c.toNat] w fun e w' => e = .returned (.int .i64 (digv c)) ∧ w = w' := by
  have hc := c.toNat_lt
  unfold digv
  obtain ⟨x, hx⟩ : ∃ x, c.toNat = x := ⟨_, rfl⟩
  rw [hx] at hc ⊢
  clear hx
  by_cases h1 : 48 ≤ x
  · by_cases h2 : x ≤ 57
    · go_enter Tryz.func87, Tryz.ntmps87
      go_wp2
      go_ret
      exact ⟨ret_int (by omega), rfl⟩
    · by_cases h3 : 97 ≤ x
      · by_cases h4 : x ≤ 102
        · go_enter Tryz.func87, Tryz.ntmps87
          go_wp2
          go_ret
          exact ⟨ret_int (by omega), rfl⟩
        · go_enter Tryz.func87, Tryz.ntmps87
          go_wp2
          go_ret
          exact ⟨ret_int (by omega), rfl⟩
      · go_enter Tryz.func87, Tryz.ntmps87
        go_wp2
        go_ret
        exact ⟨ret_int (by omega), rfl⟩
  · have h3 : ¬ 97 ≤ x := by omega
    go_enter Tryz.func87, Tryz.ntmps87
    go_wp2
    go_ret
    exact ⟨ret_int (by omega), rfl⟩

/-! ### Is -/
set_option maxRecDepth 100000 in
theorem digv_hex (c : UInt8) : decide (digv c < 0) = !hexs.data.toList.contains c := by
  have key : ((List.range 256).all fun n => decide (digv (UInt8.ofNat n) < 0) == !hexs.data.toList.contains (UInt8.ofNat n)) = true := by decide
  have h := List.all_eq_true.1 key c.toNat (List.mem_range.2 c.toNat_lt)
  rw [UInt8.ofNat_toNat] at h
  exact beq_iff_eq.1 h
theorem isD_size {t : ByteArray} (h : t.size ≠ 16) : isD t = false := by
  rw [isD, decide_eq_false h]; rfl
theorem isD_bad {t : ByteArray} {k : Nat} (h : k < t.size) (hd : hexs.data.toList.contains t[k] = false) : isD t = false := by
  have hm : t[k] ∈ t.data.toList := by
    show t.data[k] ∈ t.data.toList
    simp
  have : t.data.toList.all (hexs.data.toList.contains ·) = false := by
    rw [List.all_eq_false]
    exact ⟨_, hm, by rw [hd]; exact Bool.false_ne_true⟩
  rw [isD, this, Bool.and_false]

set_option maxRecDepth 100000 in
set_option maxHeartbeats 2000000 in
theorem ris (t : ByteArray) (ht : t.size ≤ 1000000000) (w : World) :
    Calls Tryz.prog 67 #[.string t] w fun e w' => e = .returned (.bool (isD t)) ∧ w = w' := by
  go_enter Tryz.func67, Tryz.ntmps67
  go_wp2_with fail
  go_loop [3] (fun u => ∃ k : Nat, k ≤ t.size ∧ k ≤ 16 ∧ u = .int .i64 k ∧ (t.data.toList.take k).all (hexs.data.toList.contains ·) = true) (fun u => t.size - (intOf u).toNat)
  case atStart => exact ⟨0, Nat.zero_le _, Nat.zero_le _, rfl, rfl⟩
  case round =>
  obtain ⟨k, hk, hk16, rfl, hall⟩ := hrel
  have HALL := Lib.hid hall
  clear hall
  by_cases hlt : k < t.size
  · by_cases h16 : k < 16
    · obtain ⟨c, hc⟩ : ∃ c, t[k] = c := ⟨_, rfl⟩
      have HR := Lib.hid (rdigit c w)
      obtain ⟨v, hv⟩ : ∃ v, digv c = v := ⟨_, rfl⟩
      have HX := Lib.hid (digv_hex c)
      rw [hv] at HR HX
      have HC := Lib.hid hc
      have hck : t.data.toList[k]? = some c := by
        rw [List.getElem?_eq_getElem (by simpa using hlt)]
        exact congrArg some hc
      have HCK := Lib.hid hck
      clear hv hc hck
      go_wp2_with fail
      rw [HC.out]
      refine HR.out.mono ?_
      rintro e w1 ⟨rfl, rfl⟩
      by_cases hneg : v < 0
      · have HB : Hid (isD t = false) := Lib.hid (isD_bad hlt (by have := HX.out; rw [decide_eq_true hneg] at this; rw [HC.out]; simpa using this.symm))
        go_wp2
        go_ret
        exact ⟨ret_bool HB.out.symm, rfl⟩
      · have HG : Hid (hexs.data.toList.contains c = true) := Lib.hid (by have := HX.out; rw [decide_eq_false hneg] at this; simpa using this.symm)
        go_wp2_with fail
        go_round
        case rel => exact ⟨k + 1, by omega, by omega, by go_num, by rw [take_snoc _ _ _ HCK.out, List.all_append, HALL.out, List.all_cons, HG.out]; rfl⟩
        case measure => simp [intOf]; omega
    · obtain rfl : k = 16 := by omega
      by_cases hz : t.size = 16
      · exact absurd hz (by omega)
      · have HB := Lib.hid (isD_size hz)
        go_wp2
        go_ret
        exact ⟨ret_bool (by rw [HB.out]; simp; omega), rfl⟩
  · obtain rfl : k = t.size := by omega
    rw [List.take_of_length_le (show t.data.toList.length ≤ t.size from Nat.le_refl _)] at HALL
    by_cases hz : t.size = 16
    · have HB : Hid (isD t = true) := Lib.hid (by rw [isD, decide_eq_true hz, HALL.out]; rfl)
      go_wp2
      go_ret
      exact ⟨ret_bool (by rw [HB.out]), rfl⟩
    · have HB := Lib.hid (isD_size hz)
      go_wp2
      go_ret
      exact ⟨ret_bool (by rw [HB.out]; simp; omega), rfl⟩

end Go.Proofs.YtbefcipeojahfaaGreatDoor
