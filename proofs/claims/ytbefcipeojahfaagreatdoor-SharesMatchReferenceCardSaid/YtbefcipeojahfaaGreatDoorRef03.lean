/- The reference of the digest: digits, Decimal, Same. -/
import Derived.Test.YtbefcipeojahfaaGreatDoorRef01
namespace Go.Proofs.YtbefcipeojahfaaGreatDoor
open Go.RowKit

def tens : ByteArray := ⟨#[48, 49, 50, 51, 52, 53, 54, 55, 56, 57]⟩
theorem ext10 (d : Nat) (h : d < 10) : tens.extract d (d + 1) = ⟨#[UInt8.ofNat (48 + d)]⟩ := by
  match d, h with
  | 0, _ => rfl
  | 1, _ => rfl
  | 2, _ => rfl
  | 3, _ => rfl
  | 4, _ => rfl
  | 5, _ => rfl
  | 6, _ => rfl
  | 7, _ => rfl
  | 8, _ => rfl
  | 9, _ => rfl
  | d + 10, h => omega
/-- What the loop keeps: the digits of n are those of m ahead of r; with m = 0 they are r. -/
def dgt (n m : Nat) (r : List UInt8) : Prop := (0 < m → Go.Lib.decDigits n = Go.Lib.decDigits m ++ r) ∧ (m = 0 → Go.Lib.decDigits n = r)
theorem dgt_start (n : Nat) : dgt n (n / 10) [UInt8.ofNat (48 + n % 10)] := by
  refine ⟨fun h => ?_, fun h => ?_⟩
  · rw [Go.Lib.decDigits, dif_neg (by omega)]
  · rw [Go.Lib.decDigits, dif_pos (by omega), Nat.mod_eq_of_lt (by omega)]
theorem dgt_step {n m : Nat} {r : List UInt8} (hm : 0 < m) (h : dgt n m r) : dgt n (m / 10) (UInt8.ofNat (48 + m % 10) :: r) := by
  have h1 := dgt_start m
  refine ⟨fun hp => ?_, fun hp => ?_⟩
  · rw [h.1 hm, h1.1 hp, List.append_assoc]; rfl
  · rw [h.1 hm, h1.2 hp]; rfl
theorem dgt_len {n m : Nat} {r : List UInt8} (hn : n < 18446744073709551616) (h : dgt n m r) : r.length ≤ 20 := by
  have h1 := dec_len n 19 (by have : (10 : Nat) ^ (19 + 1) = 100000000000000000000 := rfl; omega)
  rcases Nat.eq_zero_or_pos m with h0 | h0
  · rw [← h.2 h0]; exact h1
  · rw [h.1 h0, List.length_append] at h1; omega

set_option maxRecDepth 100000 in
set_option maxHeartbeats 2000000 in
theorem rdigits (n : Nat) (hn : n < 18446744073709551616) (w : World) :
    Calls Tryz.prog 71 #[.int .u64 n] w fun e w' => e = .returned (.string (dec n)) ∧ w = w' := by
  obtain ⟨d, hd⟩ : ∃ d, n % 10 = d := ⟨_, rfl⟩
  have e1 : (n : Int) % 10 = (d : Int) := by omega
  have hd10 : d < 10 := by omega
  have HS := Lib.hid (dgt_start n)
  rw [hd] at HS
  obtain ⟨m, hm⟩ : ∃ m, n / 10 = m := ⟨_, rfl⟩
  have e2 : (n : Int) / 10 = (m : Int) := by omega
  rw [hm] at HS
  have hm64 : m < 18446744073709551616 := by omega
  clear hd hm
  go_enter Tryz.func71, Tryz.ntmps71
  go_wp2_with fail
  clear e1 e2
  go_loop [0, 3] (fun u0 u3 => ∃ (m : Nat) (r : List UInt8), m < 18446744073709551616 ∧ u0 = .int .u64 (m : Int) ∧ u3 = .string ⟨r.toArray⟩ ∧ dgt n m r) (fun u0 _ => (intOf u0).toNat)
  case atStart => exact ⟨m, [UInt8.ofNat (48 + d)], hm64, rfl, (show Value.string (tens.extract d (d + 1)) = _ by rw [ext10 d hd10]), HS.out⟩
  case round =>
  obtain ⟨m, r, hm, rfl, rfl, hg⟩ := hrel
  have HG := Lib.hid hg
  clear hg
  by_cases h0 : 0 < m
  · obtain ⟨d, hd⟩ : ∃ d, m % 10 = d := ⟨_, rfl⟩
    have e1 : (m : Int) % 10 = (d : Int) := by omega
    have hd10 : d < 10 := by omega
    have HS := Lib.hid (dgt_step h0 HG.out)
    rw [hd] at HS
    clear hd
    have hz := dgt_len hn HG.out
    go_wp2_with fail
    go_round
    case rel => exact ⟨m / 10, UInt8.ofNat (48 + d) :: r, by omega, by go_num, (show Value.string (tens.extract d (d + 1) ++ ⟨r.toArray⟩) = _ by rw [ext10 d hd10, cons_ba]), HS.out⟩
    case measure => simp [intOf]; omega
  · obtain rfl : m = 0 := by omega
    have HE := Lib.hid (HG.out.2 rfl)
    go_wp2
    go_ret
    exact ⟨by rw [dec, HE.out]; rfl, rfl⟩

theorem rdecimal (n : Nat) (hn : n ≤ 9223372036854775807) (w : World) :
    Calls Tryz.prog 44 #[.int .i64 n] w fun e w' => e = .returned (.string (dec n)) ∧ w = w' := by
  have HD := Lib.hid (rdigits n (by omega) w)
  have hn0 : (0 : Int) ≤ (n : Int) := by omega
  go_enter Tryz.func44, Tryz.ntmps44
  go_wp2_with fail
  refine HD.out.mono ?_
  rintro e w1 ⟨rfl, rfl⟩
  go_wp2
  go_ret
  exact ⟨rfl, rfl⟩

/-! ### Same -/


end Go.Proofs.YtbefcipeojahfaaGreatDoor
