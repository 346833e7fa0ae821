/- The law SharesRecover: its walk. -/
import Derived.Test.YthkagcelpdcfkaaHead07
namespace Go.Proofs.Ythkagcelpdcfkaa
open Go.RowKit

theorem evp_zero (a : Int) (l : List Int) (h : elemB a = true) : evp (a :: l) 0 = a := by
  have := (elemB_iff a).1 h
  simp only [evp]; omega

theorem elemB_mod (a : Int) : elemB (a % 2147483647) = true := by rw [elemB_iff]; omega

/-- The shares of a polynomial lie on it. -/
theorem shs_on (p : List Int) (m : Nat) (hm : m ≤ 16) : On p (shs p m) := by
  refine ⟨fun s hs => ?_, fun s hs => ?_, ?_⟩
  · obtain ⟨i, hi, rfl⟩ := List.mem_map.1 hs
    have := List.mem_range.1 hi
    simp only; omega
  · obtain ⟨i, hi, rfl⟩ := List.mem_map.1 hs
    rfl
  · have e : (shs p m).map (·.1) = (List.range m).map fun (i : Nat) => (i : Int) + 1 := by simp [shs]
    rw [e]
    refine List.pairwise_map.2 (List.Pairwise.imp ?_ List.nodup_range)
    intro a b hab h
    exact hab (by omega)

theorem On.reverse {p : List Int} {l : List (Int × Int)} (h : On p l) : On p l.reverse :=
  ⟨fun s hs => h.place s (by simpa using hs), fun s hs => h.value s (by simpa using hs), by rw [List.map_reverse]; exact (List.reverse_perm _).nodup_iff.2 h.nodup⟩

set_option maxHeartbeats 4000000 in
theorem recover_any (secret : Int) (A : Option Addr) (c : Nat) (raw : List Int) (a b bits : Nat) (w : World) (hA : Ints w A raw) (hraw : raw.length ≤ 9223372036854775807) (ha : a < 256) (hb : b < 256) (hbits : bits < 256) :
    Calls Try.prog 3 #[.int .i64 secret, .slice A raw.length c, .int .u8 a, .int .u8 b, .int .u8 bits] w fun e w' => e = .returned (.bool true) ∧ Below w.heap.size w w' := by
  have HA := Lib.hid hA; clear hA
  go_enter Try.func3, Try.ntmps3
  go_wp2_with fail
  refine (head_any _).mono ?_
  rintro e w1 ⟨rfl, hb1⟩
  have HB1 := Lib.hid hb1; clear hb1
  go_wp2_with fail
  refine (made_any A c raw a b _ (HA.out.below HB1.out) hraw ha hb).mono ?_
  rintro e w2 ⟨v2, rfl, hown2, hb2⟩
  have HB2 := Lib.hid (below_trans HB1.out hb2); clear hb2
  obtain ⟨A2, c2, hv2, -, -, hrd2⟩ := Rd.of_own hown2
  obtain ⟨n, hn⟩ : ∃ n, n = 1 + a % 6 := ⟨_, rfl⟩
  obtain ⟨m, hm⟩ : ∃ m, m = 1 + a % 6 + b % (9 - (1 + a % 6)) := ⟨_, rfl⟩
  have hml : (madeL raw (a % 6)).length = a % 6 := madeL_length _ _
  have hml2 : b % (9 - (1 + a % 6)) < 9 - (1 + a % 6) := Nat.mod_lt _ (by omega)
  have hme := madeL_elem raw (a % 6) (by omega)
  rw [← hm, ← hn]
  have hn1 : 1 ≤ n := by omega
  have hnm : n ≤ m := by omega
  have hm8 : m ≤ 8 := by omega
  have hln : (madeL raw (a % 6)).length + 1 ≤ n ∧ n ≤ (madeL raw (a % 6)).length + 1 := by omega
  have hI2 : Ints w2 A2 (madeL raw (a % 6)) := by unfold Ints; rw [hml]; exact hrd2
  rw [← hml] at hv2
  subst hv2
  generalize madeL raw (a % 6) = rnd at *
  have HI2 := Lib.hid hI2
  have HME := Lib.hid hme
  clear hown2 hrd2 hn hm hml hml2 hI2 hme
  obtain ⟨hl1, hl2⟩ := hln
  go_wp2_with fail
  refine (lelement_any _ _).mono ?_
  rintro e w' ⟨rfl, rfl⟩
  have HSE := Lib.hid (elemB_mod secret)
  have h0 : 0 ≤ secret % 2147483647 := by omega
  have h0' : secret % 2147483647 < 2147483647 := by omega
  go_wp2_with fail
  refine (split_any (secret % 2147483647) n m A2 c2 rnd _ HI2.out hn1 hnm (by omega) hl1 hl2 (by rw [List.all_cons, HSE.out, HME.out]; rfl)).mono ?_
  rintro e w3 ⟨v3, rfl, hown3, hb3⟩
  have HB3 := Lib.hid (below_trans HB2.out hb3); clear hb3
  obtain ⟨A3, c3, rfl, hc3, -, hrd3⟩ := Rd.of_own hown3
  have hP3 : Prs w3 A3 (shs ((secret % 2147483647) :: rnd) m) := by unfold Prs; rw [shs_length]; exact hrd3
  have hON := shs_on ((secret % 2147483647) :: rnd) m (by omega)
  have hSL : m = (shs ((secret % 2147483647) :: rnd) m).length := (shs_length _ _).symm
  have hcall : ∀ bits : Nat, bits < 256 → Calls Try.prog 12 #[.slice A3 m c3, .int .u8 bits] w3 fun e w' =>
      ∃ v ch, e = .returned v ∧ List.Sublist ch (shs ((secret % 2147483647) :: rnd) m).reverse ∧ w'.ownsRow w3.heap.size 36 2 v ch.length (flat2 ch) ∧ Below w3.heap.size w3 w' := by
    intro bits hbits
    have h := chosen_any A3 c3 _ bits w3 hP3 (by rw [← hSL]; omega) hbits
    rw [← hSL] at h
    exact h
  have HC := Lib.hid (hcall bits hbits)
  have HON := Lib.hid hON
  clear hown3 hrd3 hP3 hcall hSL hON
  have hmm : ((m : Int) == (m : Int)) = true := by simp
  have hmm2 : ((m : Int) != (m : Int)) = false := by simp
  go_wp2_with fail
  refine HC.out.mono ?_
  rintro e w4 ⟨v4, ch, rfl, hsub, hown4, hb4⟩
  have HB4 := Lib.hid (below_trans HB3.out hb4); clear hb4
  obtain ⟨A4, c4, rfl, hc4, -, hrd4⟩ := Rd.of_own hown4
  have hch : ch.length ≤ m := by have := hsub.length_le; simpa [shs_length] using this
  have hOC := HON.out.reverse.sublist hsub
  have HP4 : Hid (Prs w4 A4 ch) := Lib.hid hrd4
  have HOC := Lib.hid hOC
  clear hsub hown4 hrd4 hOC
  go_wp2_with fail
  refine (join_full A4 c4 ch n _ HP4.out (by omega) hc4).mono ?_
  rintro e w5 ⟨rfl, hb5⟩
  have HB5 := Lib.hid (below_trans HB4.out hb5); clear hb5
  by_cases hfew : ch.length < n
  · have hj := joinF_on_few _ n ch HOC.out hn1 (by omega) hfew
    rw [hj]
    go_wp2
    go_ret
    exact ⟨rfl, HB5.out⟩
  · have hj := joinF_on _ n ch HOC.out hn1 (by omega) (by simp; omega) (by omega)
    rw [evp_zero _ _ HSE.out] at hj
    rw [hj]
    clear hj
    go_wp2_with fail
    refine (lelement_any _ _).mono ?_
    rintro e w' ⟨rfl, rfl⟩
    go_wp2
    go_ret
    exact ⟨rfl, HB5.out⟩

end Go.Proofs.Ythkagcelpdcfkaa
