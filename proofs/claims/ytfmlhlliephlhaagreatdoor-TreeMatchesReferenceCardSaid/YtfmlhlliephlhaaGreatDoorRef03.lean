/- The reference of the digest: digits, Decimal, Same. -/
import Derived.Test.YtfmlhlliephlhaaGreatDoorRef01
namespace Go.Proofs.YtfmlhlliephlhaaGreatDoor
open Go.RowKit

def tens : ByteArray := ⟨#[48, 49, 50, 51, 52, 53, 54, 55, 56, 57]⟩
theorem ext10 (d : Nat) (h : d < 10) : tens.extract d (d + 1) = ⟨#[UInt8.ofNat (48 + d)]⟩ := by
  match d, h with
  | 0, _ => rfl
  | 1, _ => rfl
  | 2, _ => rfl
  | 3, _ => rfl
  | 4, _ => rfl
  | 5, _ => rfl
  | 6, _ => rfl
  | 7, _ => rfl
  | 8, _ => rfl
  | 9, _ => rfl
  | d + 10, h => omega
/-- What the loop keeps: the digits of n are those of m ahead of r; with m = 0 they are r. -/
def dgt (n m : Nat) (r : List UInt8) : Prop := (0 < m → Go.Lib.decDigits n = Go.Lib.decDigits m ++ r) ∧ (m = 0 → Go.Lib.decDigits n = r)
theorem dgt_start (n : Nat) : dgt n (n / 10) [UInt8.ofNat (48 + n % 10)] := by
  refine ⟨fun h => ?_, fun h => ?_⟩
  · rw [Go.Lib.decDigits, dif_neg (by omega)]
  · rw [Go.Lib.decDigits, dif_pos (by omega), Nat.mod_eq_of_lt (by omega)]
theorem dgt_step {n m : Nat} {r : List UInt8} (hm : 0 < m) (h : dgt n m r) : dgt n (m / 10) (UInt8.ofNat (48 + m % 10) :: r) := by
  have h1 := dgt_start m
  refine ⟨fun hp => ?_, fun hp => ?_⟩
  · rw [h.1 hm, h1.1 hp, List.append_assoc]; rfl
  · rw [h.1 hm, h1.2 hp]; rfl
theorem dgt_len {n m : Nat} {r : List UInt8} (hn : n < 18446744073709551616) (h : dgt n m r) : r.length ≤ 20 := by
  have h1 := dec_len n 19 (by have : (10 : Nat) ^ (19 + 1) = 100000000000000000000 := rfl; omega)
  rcases Nat.eq_zero_or_pos m with h0 | h0
  · rw [← h.2 h0]; exact h1
  · rw [h.1 h0, List.length_append] at h1; omega

set_option maxRecDepth 100000 in
set_option maxHeartbeats 2000000 in
theorem rdigits (n : Nat) (hn : n < 18446744073709551616) (w : World) :
    Calls Tryz.prog 82 #[.int .u64 n] w fun e w' => e = .returned (.string (dec n)) ∧ w = w' := by
  obtain ⟨d, hd⟩ : ∃ d, n % 10 = d := ⟨_, rfl⟩
  have e1 : (n : Int) % 10 = (d : Int) := by omega
  have hd10 : d < 10 := by omega
  have HS := Lib.hid (dgt_start n)
  rw [hd] at HS
  obtain ⟨m, hm⟩ : ∃ m, n / 10 = m := ⟨_, rfl⟩
  have e2 : (n : Int) / 10 = (m : Int) := by omega
  rw [hm] at HS
  have hm64 : m < 18446744073709551616 := by omega
  clear hd hm
  go_enter Tryz.func82, Tryz.ntmps82
  go_wp2_with fail
  clear e1 e2
  go_loop [0, 3] (fun u0 u3 => ∃ (m : Nat) (r : List UInt8), m < 18446744073709551616 ∧ u0 = .int .u64 (m : Int) ∧ u3 = .string ⟨r.toArray⟩ ∧ dgt n m r) (fun u0 _ => (intOf u0).toNat)
  case atStart => exact ⟨m, [UInt8.ofNat (48 + d)], hm64, rfl, (show Value.string (tens.extract d (d + 1)) = _ by rw [ext10 d hd10]), HS.out⟩
  case round =>
  obtain ⟨m, r, hm, rfl, rfl, hg⟩ := hrel
  have HG := Lib.hid hg
  clear hg
  by_cases h0 : 0 < m
  · obtain ⟨d, hd⟩ : ∃ d, m % 10 = d := ⟨_, rfl⟩
    have e1 : (m : Int) % 10 = (d : Int) := by omega
    have hd10 : d < 10 := by omega
    have HS := Lib.hid (dgt_step h0 HG.out)
    rw [hd] at HS
    clear hd
    have hz := dgt_len hn HG.out
    go_wp2_with fail
    go_round
    case rel => exact ⟨m / 10, UInt8.ofNat (48 + d) :: r, by omega, by go_num, (show Value.string (tens.extract d (d + 1) ++ ⟨r.toArray⟩) = _ by rw [ext10 d hd10, cons_ba]), HS.out⟩
    case measure => simp [intOf]; omega
  · obtain rfl : m = 0 := by omega
    have HE := Lib.hid (HG.out.2 rfl)
    go_wp2
    go_ret
    exact ⟨by rw [dec, HE.out]; rfl, rfl⟩

theorem rdecimal (n : Nat) (hn : n ≤ 9223372036854775807) (w : World) :
    Calls Tryz.prog 67 #[.int .i64 n] w fun e w' => e = .returned (.string (dec n)) ∧ w = w' := by
  have HD := Lib.hid (rdigits n (by omega) w)
  have hn0 : (0 : Int) ≤ (n : Int) := by omega
  go_enter Tryz.func67, Tryz.ntmps67
  go_wp2_with fail
  refine HD.out.mono ?_
  rintro e w1 ⟨rfl, rfl⟩
  go_wp2
  go_ret
  exact ⟨rfl, rfl⟩

/-! ### Same -/
set_option maxRecDepth 100000 in
set_option maxHeartbeats 2000000 in
theorem rsame (A B : Option Addr) (c d : Nat) (l m : List ByteArray) (w : World) (h : Strs w A l) (h' : Strs w B m) (hl : l.length ≤ 9223372036854775807) (hm : m.length ≤ 9223372036854775807) :
    Calls Tryz.prog 14 #[.slice A l.length c, .slice B m.length d] w fun e w' => e = .returned (.bool (decide (l = m))) ∧ Below w.heap.size w w' := by
  have H := Lib.hid h
  have H' := Lib.hid h'
  clear h h'
  by_cases hlm : l.length = m.length
  · obtain ⟨n, hn⟩ : ∃ n, m.length = n := ⟨_, rfl⟩
    have HLM : Hid (l.length = n) := Lib.hid (by rw [hlm, hn])
    have HN := Lib.hid hn
    rw [hlm, hn]
    rw [hn] at hm
    clear hn hlm hl
    go_enter Tryz.func14, Tryz.ntmps14
    go_wp2_with fail
    go_loopw [5] (fun u wr => ∃ k : Nat, k ≤ n ∧ u = .int .i64 k ∧ l.take k = m.take k ∧ Below w.heap.size w wr) (fun u _ => n - (intOf u).toNat)
    case atStart => exact ⟨0, Nat.zero_le _, rfl, rfl, Below.refl _ _⟩
    case round =>
    obtain ⟨k, hk, rfl, htk, hbw⟩ := hrel
    have HTK := Lib.hid htk
    have HBW := Lib.hid hbw
    clear htk hbw
    by_cases hlt : k < n
    · obtain ⟨s, hs⟩ := get_some l k (by rw [HLM.out]; exact hlt)
      obtain ⟨s', hs'⟩ := get_some m k (by rw [HN.out]; exact hlt)
      obtain ⟨b, off, rfl, c0⟩ := (H.out.below HBW.out).at_ hs
      obtain ⟨b', off', rfl, c0'⟩ := (H'.out.below HBW.out).at_ hs'
      have HA := Lib.hid hs
      have HA' := Lib.hid hs'
      clear hs hs'
      by_cases hss : s = s'
      · subst hss
        have t1 := beq_true s
        go_wp2_with fail
        go_region
        go_wp2_with fail
        go_roundw
        case rel => exact ⟨k + 1, by omega, by go_num, by rw [take_snoc _ _ _ HA.out, take_snoc _ _ _ HA'.out, HTK.out], by first | exact HBW.out | exact HBW.out.drew⟩
        case measure => simp [intOf]; omega
      · have HD : Hid (decide (l = m) = false) := Lib.hid (decide_eq_false (by rintro rfl; exact hss (by have := HA.out.symm.trans HA'.out; exact Option.some.inj this)))
        obtain ⟨t1, t2⟩ := bne_of s s' hss
        clear hss
        go_wp2_with fail
        go_region
        go_wp2
        go_ret
        exact ⟨ret_bool HD.out.symm, by first | exact HBW.out | exact HBW.out.drew⟩
    · obtain rfl : k = n := by omega
      have HD : Hid (decide (l = m) = true) := Lib.hid (decide_eq_true (by
        have := HTK.out
        rwa [List.take_of_length_le (by rw [HLM.out]; exact Nat.le_refl _), List.take_of_length_le (by rw [HN.out]; exact Nat.le_refl _)] at this))
      go_wp2
      go_ret
      exact ⟨ret_bool HD.out.symm, HBW.out⟩
  · have HD : Hid (decide (l = m) = false) := Lib.hid (decide_eq_false (by rintro rfl; exact hlm rfl))
    have hlm2 : (l.length : Int) ≠ (m.length : Int) := by omega
    go_enter Tryz.func14, Tryz.ntmps14
    go_wp2
    go_ret
    exact ⟨ret_bool HD.out.symm, Below.refl _ _⟩

end Go.Proofs.YtfmlhlliephlhaaGreatDoor
