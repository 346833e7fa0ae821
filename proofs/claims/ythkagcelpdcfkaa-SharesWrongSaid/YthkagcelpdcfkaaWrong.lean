/- The law SharesWrong: its walk. -/
import Derived.Test.YthkagcelpdcfkaaRecover
import Derived.StillTailTactics
namespace Go.Proofs.Ythkagcelpdcfkaa
open Go.RowKit

theorem flat2_set (l : List (Int × Int)) (k : Nat) (s : Int × Int) (y : Int) (h : l[k]? = some s) : (flat2 l).set (k * 2 + 1) (.int .i64 y) = flat2 (l.set k (s.1, y)) := by
  induction l generalizing k with
  | nil => simp at h
  | cons q l ih =>
    cases k with
    | zero => simp at h; subst h; rfl
    | succ k =>
      have := ih k (by simpa using h)
      have e : flat2 (q :: l) = .int .i64 q.1 :: .int .i64 q.2 :: flat2 l := rfl
      rw [e, show (k + 1) * 2 + 1 = (k * 2 + 1) + 1 + 1 by omega, List.set_cons_succ, List.set_cons_succ, this]; rfl

set_option maxHeartbeats 4000000 in
theorem wrong_any (secret : Int) (A : Option Addr) (c : Nat) (raw : List Int) (a b bits which : Nat) (by_ : Int) (w : World) (hA : Ints w A raw) (hraw : raw.length ≤ 9223372036854775807) (ha : a < 256) (hb : b < 256) (hbits : bits < 256) (hwhich : which < 256) :
    Calls Try.prog 5 #[.int .i64 secret, .slice A raw.length c, .int .u8 a, .int .u8 b, .int .u8 bits, .int .u8 which, .int .i64 by_] w fun e w' => e = .returned (.bool true) ∧ Below w.heap.size w w' := by
  have HA := Lib.hid hA; clear hA
  go_enter Try.func5, Try.ntmps5
  go_wp2_with fail
  refine (head_any _).mono ?_
  rintro e w1 ⟨rfl, hb1⟩
  have HB1 := Lib.hid hb1; clear hb1
  go_wp2_with fail
  refine (made_any A c raw a b _ (HA.out.below HB1.out) hraw ha hb).mono ?_
  rintro e w2 ⟨v2, rfl, hown2, hb2⟩
  have HB2 := Lib.hid (below_trans HB1.out hb2); clear hb2
  obtain ⟨A2, c2, hv2, -, -, hrd2⟩ := Rd.of_own hown2
  obtain ⟨n, hn⟩ : ∃ n, n = 1 + a % 6 := ⟨_, rfl⟩
  obtain ⟨m, hm⟩ : ∃ m, m = 1 + a % 6 + b % (9 - (1 + a % 6)) := ⟨_, rfl⟩
  have hml : (madeL raw (a % 6)).length = a % 6 := madeL_length _ _
  have hml2 : b % (9 - (1 + a % 6)) < 9 - (1 + a % 6) := Nat.mod_lt _ (by omega)
  have hme := madeL_elem raw (a % 6) (by omega)
  rw [← hm, ← hn]
  have hn1 : 1 ≤ n := by omega
  have hnm : n ≤ m := by omega
  have hm8 : m ≤ 8 := by omega
  have hln : (madeL raw (a % 6)).length + 1 ≤ n ∧ n ≤ (madeL raw (a % 6)).length + 1 := by omega
  have hI2 : Ints w2 A2 (madeL raw (a % 6)) := by unfold Ints; rw [hml]; exact hrd2
  rw [← hml] at hv2
  subst hv2
  generalize madeL raw (a % 6) = rnd at *
  have HI2 := Lib.hid hI2
  have HME := Lib.hid hme
  clear hown2 hrd2 hn hm hml hml2 hI2 hme
  obtain ⟨hl1, hl2⟩ := hln
  go_wp2_with fail
  refine (lelement_any _ _).mono ?_
  rintro e w' ⟨rfl, rfl⟩
  have HSE := Lib.hid (elemB_mod secret)
  have h0 : 0 ≤ secret % 2147483647 := by omega
  have h0' : secret % 2147483647 < 2147483647 := by omega
  go_wp2_with fail
  refine (split_any (secret % 2147483647) n m A2 c2 rnd _ HI2.out hn1 hnm (by omega) hl1 hl2 (by rw [List.all_cons, HSE.out, HME.out]; rfl)).mono ?_
  rintro e w3 ⟨v3, rfl, hown3, hb3⟩
  have HB3 := Lib.hid (below_trans HB2.out hb3); clear hb3
  obtain ⟨A3, c3, rfl, hc3, -, hrd3⟩ := Rd.of_own hown3
  have hP3 : Prs w3 A3 (shs ((secret % 2147483647) :: rnd) m) := by unfold Prs; rw [shs_length]; exact hrd3
  have hON := shs_on ((secret % 2147483647) :: rnd) m (by omega)
  have hSL : m = (shs ((secret % 2147483647) :: rnd) m).length := (shs_length _ _).symm
  have hcall : ∀ bits : Nat, bits < 256 → Calls Try.prog 12 #[.slice A3 m c3, .int .u8 bits] w3 fun e w' =>
      ∃ v ch, e = .returned v ∧ List.Sublist ch (shs ((secret % 2147483647) :: rnd) m).reverse ∧ w'.ownsRow w3.heap.size 36 2 v ch.length (flat2 ch) ∧ Below w3.heap.size w3 w' := by
    intro bits hbits
    have h := chosen_any A3 c3 _ bits w3 hP3 (by rw [← hSL]; omega) hbits
    rw [← hSL] at h
    exact h
  have HC := Lib.hid (hcall bits hbits)
  have HON := Lib.hid hON
  clear hown3 hrd3 hP3 hcall hSL hON
  have hmm : ((m : Int) == (m : Int)) = true := by simp
  have hmm2 : ((m : Int) != (m : Int)) = false := by simp
  go_wp2_with fail
  refine HC.out.mono ?_
  rintro e w4 ⟨v4, ch, rfl, hsub, hown4, hb4⟩
  have HB4 := Lib.hid (below_trans HB3.out hb4); clear hb4
  obtain ⟨A4, c4, rfl, hc4, -, hrd4⟩ := Rd.of_own hown4
  have hch : ch.length ≤ m := by have := hsub.length_le; simpa [shs_length] using this
  have hOC := HON.out.reverse.sublist hsub
  have HP4 : Hid (Prs w4 A4 ch) := Lib.hid hrd4
  have HOC := Lib.hid hOC
  have HO4 := Lib.hid hown4
  clear hsub hown4 hrd4 hOC
  by_cases hfew : ch.length ≤ n
  · go_wp2
    go_ret
    exact ⟨rfl, HB4.out⟩
  go_wp2_with fail
  refine (lelement_any _ _).mono ?_
  rintro e w' ⟨rfl, rfl⟩
  by_cases hby : by_ % 2147483647 = 0
  · have hby' : (by_ % 2147483647 == 0) = true := by simp [hby]
    clear hby
    go_wp2
    go_ret
    exact ⟨rfl, HB4.out⟩
  have hby' : (by_ % 2147483647 == 0) = false := by simp [hby]
  obtain ⟨kk, hkk⟩ : ∃ kk : Nat, kk = which % ch.length := ⟨_, rfl⟩
  have hkl : kk < ch.length := by rw [hkk]; exact Nat.mod_lt _ (by omega)
  have hke : (which : Int) % (ch.length : Int) = (kk : Int) := by rw [hkk, Int.natCast_emod]
  obtain ⟨s, hs⟩ := get_some ch kk hkl
  obtain ⟨g, rfl, hg⟩ := own_some HO4.out (by omega)
  obtain ⟨hf1, hf2⟩ := flat2_at ch kk s hs
  have hcy : w4.cell? ⟨g, kk * 2 + 1, none⟩ = some (.int .i64 s.2) := by rw [HO4.out.cellAt _ (by omega)]; exact hf2
  have hfr : w4.frozen? ⟨g, kk * 2 + 1, none⟩ = false := HO4.out.frozenAt _
  have hse := HOC.out.value s (List.mem_of_getElem? hs)
  have hsr := evp_range (secret % 2147483647 :: rnd) s.1
  rw [← hse] at hsr
  obtain ⟨hs0, hs1⟩ := hsr
  have HSS := Lib.hid hs
  have hpos : (0 : Int) < (ch.length : Int) := by omega
  clear hkk hf1 hf2 hse hs
  go_wp2
  have hcy' : w4.drew.cell? ⟨g, kk * 2 + 1, none⟩ = some (.int .i64 s.2) := hcy
  refine wp_region_still_tail 13 (by kernel_rfl) (by kernel_rfl) ?_
  simp only [List.take_succ_cons, List.take_zero, List.drop_succ_cons, List.drop_zero]
  change wpStill _ _ w4.drew _ _ _
  repeat still_step
  still_call (still_of (lelement_any _ _))
  repeat still_step
  still_call (still_of (lelement_any _ _))
  repeat still_step
  refine wpStill_nil ?_
  change wpList _ _ _ _ _ w4.drew
  have hst := HO4.out.stored (kk * 2 + 1) (.int .i64 ((s.2 + by_) % 2147483647))
  rw [flat2_set ch kk s _ HSS.out] at hst
  obtain ⟨hst1, hst2⟩ := hst
  have hy0 : 0 ≤ (s.2 + by_) % 2147483647 := by omega
  have hy1 : (s.2 + by_) % 2147483647 < 2147483647 := by omega
  have hyn : (s.2 + by_) % 2147483647 ≠ s.2 := by omega
  have hj := joinF_on_wrong (secret % 2147483647 :: rnd) n ch HOC.out hn1 (by omega) (by simp; omega) (by omega) kk s HSS.out _ hy0 hy1 hyn
  have HJ := Lib.hid hj
  have hP5 : Prs (w4.setCell ⟨g, kk * 2 + 1, none⟩ (.int .i64 ((s.2 + by_) % 2147483647))).drew (some ⟨g, 0, none⟩) (ch.set kk (s.1, (s.2 + by_) % 2147483647)) := by
    obtain ⟨A', c', e, _, _, hr⟩ := Rd.of_own hst1
    injection e with e1 e2
    subst e1
    unfold Prs
    rw [List.length_set]
    exact hr
  have hcall := join_full (some ⟨g, 0, none⟩) c4 (ch.set kk (s.1, (s.2 + by_) % 2147483647)) n _ hP5 (by simp; omega) (by simpa using hc4)
  rw [List.length_set] at hcall
  have HCALL := Lib.hid hcall
  have hB5 : Below w.heap.size w (w4.setCell ⟨g, kk * 2 + 1, none⟩ (.int .i64 ((s.2 + by_) % 2147483647))).drew := (HB4.out.setCell (by show w.heap.size ≤ g; have := HB3.out.size; omega) _).drew
  have HB5 := Lib.hid hB5
  clear hst1 hst2 hj hP5 hcall hB5 hyn
  go_wp2_with fail
  refine HCALL.out.mono ?_
  rintro e w6 ⟨rfl, hb6⟩
  rw [HJ.out]
  have HB6 := Lib.hid (below_trans HB5.out hb6)
  clear hb6
  go_wp2
  go_ret
  exact ⟨rfl, HB6.out⟩

end Go.Proofs.Ythkagcelpdcfkaa
