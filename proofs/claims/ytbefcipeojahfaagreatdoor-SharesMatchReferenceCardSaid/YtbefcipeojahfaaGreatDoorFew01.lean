/- observatoryref01.Few: at most 30 texts, none too long. -/
import Derived.Test.YtbefcipeojahfaaGreatDoorPureD01
namespace Go.Proofs.YtbefcipeojahfaaGreatDoor
open Go.RowKit

def fewB (l : List ByteArray) (m : Nat) : Bool := l.all (fun s => decide (s.size ≤ m)) && decide (l.length ≤ 30)
theorem few_any (A : Option Addr) (c : Nat) (l : List ByteArray) (m : Nat) (w : World) (h : Strs w A l) (hl : l.length ≤ 9223372036854775807) :
    Calls Tryz.prog 6 #[.slice A l.length c, .int .i64 m] w fun e w' => e = .returned (.bool (fewB l m)) ∧ w = w' := by
  have H := Lib.hid h
  clear h
  go_enter Tryz.func6, Tryz.ntmps6
  go_wp2_with fail
  go_loop [5] (fun u => ∃ k : Nat, k ≤ l.length ∧ u = .int .i64 k ∧ (l.take k).all (fun s => decide (s.size ≤ m)) = true) (fun u => l.length - (intOf u).toNat)
  case atStart => exact ⟨0, Nat.zero_le _, rfl, rfl⟩
  case round =>
    obtain ⟨k, hk, rfl, hall⟩ := hrel
    have HALL := Lib.hid hall
    clear hall
    by_cases hlt : k < l.length
    · obtain ⟨s, hs⟩ := get_some l k hlt
      obtain ⟨b, off, rfl, c0⟩ := H.out.at_ hs
      have HA := Lib.hid hs
      clear hs
      obtain ⟨z, hz⟩ : ∃ z, s.size = z := ⟨_, rfl⟩
      by_cases h100 : z ≤ m
      · go_wp2
        go_round
        case rel => exact ⟨k + 1, by omega, by go_num, by rw [all_take_succ _ _ _ _ HA.out, HALL.out, hz]; simpa using h100⟩
        case measure => simp [intOf]; omega
      · have hr : fewB l m = false := by
          rw [fewB, all_false_of _ _ _ _ HA.out (by rw [hz]; simpa using h100)]; rfl
        have HR := Lib.hid hr
        clear hr
        go_wp2
        go_ret
        exact ⟨ret_bool HR.out.symm, rfl⟩
    · obtain rfl : k = l.length := by omega
      rw [List.take_length] at HALL
      by_cases h30 : l.length ≤ 30
      · go_wp2
        go_ret
        exact ⟨ret_bool (by rw [fewB, HALL.out]; simp [h30]; omega), rfl⟩
      · go_wp2
        go_ret
        exact ⟨ret_bool (by rw [fewB, HALL.out]; simp [h30]; omega), rfl⟩

theorem dec_len (n k : Nat) (h : n < 10 ^ (k + 1)) : (Go.Lib.decDigits n).length ≤ k + 1 := by
  induction k generalizing n with
  | zero => rw [Go.Lib.decDigits, dif_pos (by simpa using h)]; simp
  | succ k ih =>
    rw [Go.Lib.decDigits]
    split
    · simp
    · have := ih (n / 10) (by rw [Nat.pow_succ] at h; omega)
      simp only [List.length_append, List.length_singleton]; omega
theorem jn_few (l : List ByteArray) (h : ∀ s ∈ l, s.size ≤ 200) : (jn l).length ≤ l.length * 204 := by
  induction l with
  | nil => exact Nat.zero_le _
  | cons s l ih =>
    have h1 := h s List.mem_cons_self
    have h2 := ih (fun s hs => h s (List.mem_cons_of_mem _ hs))
    have h3 := dec_len s.size 2 (by have : (10 : Nat) ^ (2 + 1) = 1000 := rfl; omega)
    have h4 : s.data.toList.length = s.size := rfl
    rw [jn, List.flatMap_cons, List.length_append]
    show (one s).length + (jn l).length ≤ _
    simp only [one, List.length_append, List.length_cons, List.length_nil]
    omega
theorem few_jn {l : List ByteArray} (h : fewB l 200 = true) : (jn l).length ≤ 6120 ∧ l.length ≤ 30 ∧ ∀ s ∈ l, s.size ≤ 200 := by
  simp only [fewB, Bool.and_eq_true, List.all_eq_true, decide_eq_true_eq] at h
  have := jn_few l h.1
  exact ⟨by omega, h.2, h.1⟩

end Go.Proofs.YtbefcipeojahfaaGreatDoor
