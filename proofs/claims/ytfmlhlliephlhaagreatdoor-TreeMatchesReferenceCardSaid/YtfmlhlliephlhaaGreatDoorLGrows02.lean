/- The law TreeGrows: the walk. -/
import Derived.Test.YtfmlhlliephlhaaGreatDoorTreeHead02
import Derived.Test.YtfmlhlliephlhaaGreatDoorOpen
namespace Go.Proofs.YtfmlhlliephlhaaGreatDoor
open Go.RowKit

theorem bdig_le (n : Nat) : bdig n ≤ n := by
  induction n using Nat.strongRecOn with
  | _ n ih =>
    by_cases h : n = 0
    · subst h; rw [bdig]; simp
    · rw [bdig_pos n (by omega)]; have := ih (n / 2) (by omega); omega
theorem allD_lk (l : List ByteArray) (m : Nat) (w : Bool) (h : allD l = true) : allD (lk l m w) = true := by
  obtain ⟨n, hn⟩ : ∃ n, l.length = n := ⟨_, rfl⟩
  induction n using Nat.strongRecOn generalizing l m w with
  | _ n ih =>
    by_cases hc : m < l.length ∧ 2 ≤ l.length
    · have k1 := hf_lt l.length hc.2
      have k2 := hf_pos l.length
      by_cases hi : m ≤ hf l.length
      · rw [lk_le l m w hc.1 hc.2 hi]
        have h1 := ih _ (by rw [List.length_take]; omega) (l.take (hf l.length)) m w (allD_take h _) rfl
        have h2 := isD_rt _ (allD_drop h (hf l.length))
        simp only [allD, List.all_append, Bool.and_eq_true] at h1 ⊢
        exact ⟨h1, by simp [h2]⟩
      · rw [lk_gt l m w hc.1 hc.2 hi]
        have h1 := ih _ (by rw [List.length_drop]; omega) (l.drop (hf l.length)) (m - hf l.length) false (allD_drop h _) rfl
        have h2 := isD_rt _ (allD_take h (hf l.length))
        simp only [allD, List.all_append, Bool.and_eq_true] at h1 ⊢
        exact ⟨h1, by simp [h2]⟩
    · have e : lk l m w = if w then [] else [rt l] := by rw [lk, dif_neg hc]
      rw [e]
      have h2 := isD_rt _ h
      cases w <;> simp [allD, h2]
theorem allD_sm {l : List ByteArray} (h : allD l = true) : sm l := fun s hs => by
  simp only [allD, List.all_eq_true] at h
  rw [isD_16 (h s hs)]; omega

theorem grows_yes (l : List ByteArray) (m : Nat) (hD : allD l = true) (hm : 1 ≤ m) (hml : m ≤ l.length) (hn : l.length ≤ 1000000) : extB (rt (l.take m)) (m : Int) (rt l) (l.length : Int) (lk l m true) = true := by
  unfold extB
  have h1 : ((0 : Int) ≤ (m : Int) ∧ (m : Int) ≤ (l.length : Int) ∧ (l.length : Int) ≤ 1000000) := by omega
  have h2 : ¬ ((m : Int) = 0) := by omega
  rw [decide_eq_true h1, if_neg h2, allD_lk l m true hD, isD_rt _ (allD_take hD m), isD_rt _ hD, Int.toNat_natCast, Int.toNat_natCast, link_both l m true (rt (l.take m)) hm hml (fun _ => rfl), lk_len l m true hm]
  simp
theorem grows_no (l : List ByteArray) (hD : allD l = true) (hn : l.length ≤ 1000000) : extB em 0 (rt l) (l.length : Int) [] = true := by
  unfold extB
  have h1 : ((0 : Int) ≤ 0 ∧ (0 : Int) ≤ (l.length : Int) ∧ (l.length : Int) ≤ 1000000) := by omega
  rw [decide_eq_true h1, if_pos rfl, isD_em, isD_rt _ hD]
  by_cases h0 : l.length = 0
  · obtain rfl : l = [] := List.eq_nil_of_length_eq_zero h0
    rw [rt_nil]; simp [allD]
  · have : (0 : Int) < (l.length : Int) := by omega
    rw [decide_eq_true this]; simp [allD]

set_option maxHeartbeats 4000000 in
theorem tlink_zero (A : Option Addr) (c : Nat) (l : List ByteArray) (w : World) (hbig : l.length ≤ 100000) (hS : Strs w A l) (hsm : sm l) (hD : allD l = true) :
    Calls Tryz.prog 10 #[.slice A l.length c, .int .i64 0] w fun e w' => e = .returned (.tuple #[.slice none 0 0, .int .i64 0]) ∧ Below w.heap.size w w' := by
  have HPR := Lib.hid (proper_any A c l w (by omega) hS (fun s hs => by have := hsm s hs; omega))
  rw [hD] at HPR
  clear hS hsm hD
  go_enter Tryz.func10, Tryz.ntmps10
  go_wp2_with fail
  refine HPR.out.mono ?_
  rintro e w1 ⟨rfl, hb1⟩
  have HB1 := Lib.hid hb1
  clear hb1
  go_wp2
  go_ret2
  exact ⟨rfl, HB1.out⟩

end Go.Proofs.YtfmlhlliephlhaaGreatDoor
