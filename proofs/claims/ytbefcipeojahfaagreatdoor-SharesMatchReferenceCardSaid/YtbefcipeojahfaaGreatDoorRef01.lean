/- The reference of the digest: mix, Sum, Chain. -/
import Derived.Test.YtbefcipeojahfaaGreatDoorFew01
namespace Go.Proofs.YtbefcipeojahfaaGreatDoor
open Go.RowKit

set_option maxHeartbeats 2000000 in
theorem rmix (x : UInt64) (w : World) : Calls Tryz.prog 74 #[.int .u64 x.toNat] w fun e w' => e = .returned (.int .u64 (mix64 x).toNat) ∧ w = w' := by
  have hx := x.toNat_lt
  go_enter Tryz.func74, Tryz.ntmps74
  go_wp2
  go_ret
  exact ⟨ret_int (mix_walk x), rfl⟩

theorem or_add (a : UInt64) (c : UInt8) : (((a <<< 8).toNat : Int) + (c.toNat : Int)) = ((a <<< 8 ||| c.toUInt64).toNat : Int) := by
  have hc := c.toNat_lt
  have e : (8 : UInt64).toNat % 64 = 8 := rfl
  have h1 : (a <<< 8).toNat = (a.toNat % 2 ^ 56) <<< 8 := by
    rw [UInt64.toNat_shiftLeft, e, Nat.shiftLeft_eq, Nat.shiftLeft_eq]
    omega
  rw [UInt64.toNat_or, UInt8.toNat_toUInt64, h1, ← Nat.shiftLeft_add_eq_or_of_lt (by simpa using hc)]
  omega
theorem or_zero (a : UInt64) : (a <<< 8 ||| (0 : UInt8).toUInt64) = a <<< 8 := by
  have e : (0 : UInt8).toUInt64 = 0 := rfl
  rw [e, UInt64.or_zero]
theorem pblk_at (t : ByteArray) (k j : Nat) (hj : j < 8) : (pblk t k)[j]? = some (if h : 8 * k + j < t.size then t[8 * k + j] else 0) := by
  unfold pblk
  have hl : (t.data.toList.drop (8 * k)).length = t.size - 8 * k := by rw [List.length_drop]; rfl
  by_cases h : 8 * k + j < t.size
  · rw [dif_pos h, List.getElem?_append_left (by rw [List.length_take, hl]; omega), List.getElem?_take, if_pos hj, List.getElem?_drop]
    exact List.getElem?_eq_getElem (by simpa using h)
  · rw [dif_neg h, List.getElem?_append_right (by rw [List.length_take, hl]; omega), List.getElem?_replicate_of_lt (by rw [List.length_take, hl]; omega)]
theorem ext1 (d : Nat) (h : d < 16) : hexs.extract d (d + 1) = ⟨#[hexd d]⟩ := by
  match d, h with
  | 0, _ => rfl
  | 1, _ => rfl
  | 2, _ => rfl
  | 3, _ => rfl
  | 4, _ => rfl
  | 5, _ => rfl
  | 6, _ => rfl
  | 7, _ => rfl
  | 8, _ => rfl
  | 9, _ => rfl
  | 10, _ => rfl
  | 11, _ => rfl
  | 12, _ => rfl
  | 13, _ => rfl
  | 14, _ => rfl
  | 15, _ => rfl
  | d + 16, h => omega
theorem cons_ba (c : UInt8) (l : List UInt8) : (⟨#[c]⟩ : ByteArray) ++ ⟨l.toArray⟩ = ⟨(c :: l).toArray⟩ := by
  apply ByteArray.ext
  rw [ByteArray.data_append]
  apply Array.toList_inj.1
  simp

set_option maxRecDepth 100000 in
set_option maxHeartbeats 8000000 in
theorem rsum (t : ByteArray) (ht : t.size ≤ 1000000000) (w : World) :
    Calls Tryz.prog 49 #[.string t] w fun e w' => e = .returned (.string (dg t)) ∧ w = w' := by
  obtain ⟨s0, hs0⟩ : ∃ s, 1442695040888963407 ^^^ UInt64.ofNat t.size = s := ⟨_, rfl⟩
  have e0 : bits .xor .u64 1442695040888963407 (t.size : Int) = (s0.toNat : Int) := by
    have h1 := bits_xor_u64 1442695040888963407 (UInt64.ofNat t.size)
    have h2 : ((UInt64.ofNat t.size).toNat : Int) = (t.size : Int) := by
      rw [UInt64.toNat_ofNat']; omega
    rw [h2, hs0] at h1
    exact h1
  have HS0 := Lib.hid hs0
  clear hs0
  go_enter Tryz.func49, Tryz.ntmps49
  go_wp2_with fail
  clear e0
  go_loop [3, 4] (fun u3 u4 => ∃ k : Nat, k ≤ t.size / 8 + 1 ∧ u4 = .int .i64 (8 * k : Nat) ∧ u3 = .int .u64 (absorb s0 t k).toNat) (fun _ u4 => t.size + 8 - (intOf u4).toNat)
  case atStart => exact ⟨0, Nat.zero_le _, rfl, rfl⟩
  case round =>
  obtain ⟨k, hk, rfl, rfl⟩ := hrel
  obtain ⟨st, hst⟩ : ∃ st, absorb s0 t k = st := ⟨_, rfl⟩
  rw [hst]
  have HST := Lib.hid hst
  clear hst
  by_cases hlt : 8 * k ≤ t.size
  · obtain ⟨q, hq⟩ : ∃ q, 8 * k = q := ⟨_, rfl⟩
    have hq1 : q ≤ t.size := by omega
    rw [hq]
    have HQ := Lib.hid hq
    clear hq hlt
    go_wp2_with fail
    go_loop [5, 6] (fun u5 u6 => ∃ j : Nat, j ≤ 8 ∧ u6 = .int .i64 (q + j : Nat) ∧ u5 = .int .u64 (blk64 ((pblk t k).take j)).toNat) (fun _ u6 => q + 8 - (intOf u6).toNat)
    case atStart => exact ⟨0, Nat.zero_le _, rfl, rfl⟩
    case round =>
    obtain ⟨j, hj, rfl, rfl⟩ := hrel
    obtain ⟨n, hn⟩ : ∃ n, blk64 ((pblk t k).take j) = n := ⟨_, rfl⟩
    rw [hn]
    have HN := Lib.hid hn
    clear hn
    obtain ⟨i, hi⟩ : ∃ i, q + j = i := ⟨_, rfl⟩
    rw [hi]
    have hi1 : i ≤ q + 8 := by omega
    by_cases hj8 : j < 8
    · have hi2 : i < q + 8 := by omega
      have hpa := pblk_at t k j hj8
      rw [HQ.out, hi] at hpa
      have HI := Lib.hid hi
      by_cases hin : i < t.size
      · rw [dif_pos hin] at hpa
        have hsn := take_snoc (pblk t k) j _ hpa
        have HSN := Lib.hid hsn
        have e1 : IntKind.u64.wrap ((n.toNat : Int) * 256) = ((n <<< 8).toNat : Int) := shl8_u64 n
        obtain ⟨m, hm⟩ : ∃ m, n <<< 8 = m := ⟨_, rfl⟩
        have hoa := or_add n t[i]
        rw [hm] at e1 hoa
        have hm64 := m.toNat_lt
        have hc8 := t[i].toNat_lt
        have HM := Lib.hid hm
        have HOA := Lib.hid hoa
        clear hm hpa hsn hi hoa
        go_wp2_with fail
        go_round
        case rel => exact ⟨j + 1, by omega, by rw [← HI.out]; go_num, by rw [HSN.out, blk_snoc, HN.out, HM.out, HOA.out, cast_u64]⟩
        case measure => simp [intOf]; omega
      · rw [dif_neg hin] at hpa
        have hsn := take_snoc (pblk t k) j _ hpa
        have HSN := Lib.hid hsn
        have e1 : IntKind.u64.wrap ((n.toNat : Int) * 256) = ((n <<< 8).toNat : Int) := shl8_u64 n
        obtain ⟨m, hm⟩ : ∃ m, n <<< 8 = m := ⟨_, rfl⟩
        rw [hm] at e1
        have hm64 := m.toNat_lt
        have HM := Lib.hid hm
        clear hm hpa hsn hi
        go_wp2_with fail
        go_round
        case rel => exact ⟨j + 1, by omega, by rw [← HI.out]; go_num, by rw [HSN.out, blk_snoc, HN.out, or_zero, HM.out]⟩
        case measure => simp [intOf]; omega
    · have hj88 : j = 8 := by omega
      have HE : Hid (blk64 (pblk t k) = n) := Lib.hid (by rw [← HN.out, List.take_of_length_le (by rw [pblk_len]; omega)])
      have hi8 : i = q + 8 := by omega
      subst hi8
      clear hi hj88
      go_wp2_with fail
      rw [bits_xor_u64]
      refine (rmix _ w).mono ?_
      rintro e w1 ⟨rfl, rfl⟩
      have HMX : Hid (mix64 (st ^^^ n) = absorb s0 t (k + 1)) := Lib.hid (by rw [absorb, HST.out, HE.out])
      rw [HMX.out]
      go_wp2_with fail
      go_round
      case rel => exact ⟨k + 1, by have := HQ.out; omega, by rw [← HQ.out]; go_num, rfl⟩
      case measure => simp [intOf]; omega
  · obtain rfl : k = t.size / 8 + 1 := by omega
    obtain ⟨u, hu⟩ : ∃ u, st.toNat = u := ⟨_, rfl⟩
    have hu64 : u < 18446744073709551616 := by rw [← hu]; exact st.toNat_lt
    have HD : Hid (dg t = ⟨(hexk u 16).toArray⟩) := Lib.hid (by rw [dg, dgs, HS0.out, HST.out, hu])
    rw [hu]
    clear hu
    go_wp2_with fail
    go_loop [3, 7, 8] (fun u3 u7 u8 => ∃ i : Nat, i ≤ 16 ∧ u8 = .int .i64 i ∧ u7 = .string ⟨(hexk u i).toArray⟩ ∧ u3 = .int .u64 ((u / 16 ^ i : Nat) : Int)) (fun _ _ u8 => 16 - (intOf u8).toNat)
    case atStart => exact ⟨0, Nat.zero_le _, rfl, rfl, by simp⟩
    case round =>
    obtain ⟨i, hi, rfl, rfl, rfl⟩ := hrel
    by_cases h16 : i < 16
    · obtain ⟨x, hx⟩ : ∃ x, u / 16 ^ i = x := ⟨_, rfl⟩
      have hx64 : x < 18446744073709551616 := by rw [← hx]; exact Nat.lt_of_le_of_lt (Nat.div_le_self _ _) hu64
      rw [hx]
      obtain ⟨r, hr⟩ : ∃ r, (⟨(hexk u i).toArray⟩ : ByteArray) = r := ⟨_, rfl⟩
      have hrz : r.size ≤ 16 := by rw [← hr]; show (hexk u i).length ≤ 16; rw [hexk_len]; exact hi
      rw [hr]
      obtain ⟨d, hd⟩ : ∃ d, x % 16 = d := ⟨_, rfl⟩
      have hd16 : d < 16 := by omega
      have e1 : (x : Int) % 16 = (d : Int) := by omega
      have HX := Lib.hid hx
      have HR := Lib.hid hr
      have HDD := Lib.hid hd
      clear hx hr hd
      go_wp2_with fail
      go_round
      case rel => exact ⟨i + 1, by omega, by go_num, (show Value.string (hexs.extract d (d + 1) ++ r) = _ by rw [ext1 d hd16, ← HR.out, cons_ba, hexk, HX.out, HDD.out]), by rw [Nat.pow_succ, ← Nat.div_div_eq_div_mul, HX.out]; go_num⟩
      case measure => simp [intOf]; omega
    · obtain rfl : i = 16 := by omega
      go_wp2
      go_ret
      exact ⟨by rw [HD.out]; rfl, rfl⟩

end Go.Proofs.YtbefcipeojahfaaGreatDoor
