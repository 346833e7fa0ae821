/- The reference of layer 2: Half, Empty, node, root. -/
import Derived.Test.YtbefcipeojahfaaGreatDoorTree02
import Derived.Test.YtbefcipeojahfaaGreatDoorRef04
namespace Go.Proofs.YtbefcipeojahfaaGreatDoor
open Go.RowKit

set_option maxHeartbeats 1600000 in
theorem rhalf_any (n : Nat) (h : n ≤ 1000000) (w : World) : Calls Tryz.prog 45 #[.int .i64 n] w fun e w' => e = .returned (.int .i64 (hf n)) ∧ w = w' := by
  go_enter Tryz.func45, Tryz.ntmps45
  go_wp2_with fail
  go_loop [3] (fun u => ∃ j k : Nat, k = 2 ^ j ∧ (k < n ∨ j = 0) ∧ u = .int .i64 k) (fun u => n - (intOf u).toNat)
  case atStart => exact ⟨0, 1, rfl, .inr rfl, rfl⟩
  case round =>
    obtain ⟨j, k, hk, hj, rfl⟩ := hrel
    have hk1 : 1 ≤ k := by rw [hk]; exact Nat.one_le_two_pow
    have hk2 : k ≤ 1000000 := by
      rcases hj with h1 | rfl
      · omega
      · simp at hk; omega
    have HK := Lib.hid hk
    have HJ := Lib.hid hj
    clear hk hj
    by_cases hlt : 2 * k < n
    · go_wp2
      go_round
      case rel => exact ⟨j + 1, 2 * k, by rw [HK.out, Nat.pow_succ]; omega, .inl hlt, by go_num⟩
      case measure => simp [intOf]; omega
    · have he : hf n = k := by
        have := hf_eq n j (by rcases HJ.out with h1 | h1; exact .inl (by rw [← HK.out]; exact h1); exact .inr h1) (by rw [← HK.out]; omega)
        rw [this, HK.out]
      have HE := Lib.hid he
      clear he
      go_wp2
      go_ret
      exact ⟨ret_int (by rw [HE.out]), rfl⟩

set_option maxHeartbeats 1600000 in
theorem rnode_any (a b : ByteArray) (ha : a.size ≤ 200) (hb : b.size ≤ 200) (w : World) :
    Calls Tryz.prog 73 #[.string a, .string b] w fun e w' => e = .returned (.string (nd a b)) ∧ Below w.heap.size w w' := by
  obtain ⟨wa, hwa⟩ : ∃ wa, w.alloc (.cells #[.string bNode, .string a, .string b] 9) = wa := ⟨_, rfl⟩
  have HBA : Hid (Below w.heap.size w wa) := Lib.hid (by rw [← hwa]; exact below_alloc (Below.refl _ _) _)
  have HSA : Hid (Strs wa (some ⟨w.heap.size, 0, none⟩) [bNode, a, b]) := Lib.hid (by rw [← hwa]; exact Strs_new _ _ _ _ _ rfl rfl)
  have HWA := Lib.hid hwa
  have HL := Lib.hid (rlist (some ⟨w.heap.size, 0, none⟩) 3 [bNode, a, b] wa HSA.out (by simp) (by
    intro s hs
    simp only [List.mem_cons, List.not_mem_nil, or_false] at hs
    rcases hs with rfl | rfl | rfl
    · decide
    · exact ha
    · exact hb))
  clear hwa
  go_enter Tryz.func73, Tryz.ntmps73
  go_wp2_with fail
  have hwa := HWA.out
  unfold bNode at hwa
  rw [hwa]
  refine HL.out.mono ?_
  rintro e w1 ⟨rfl, hb1⟩
  have HB1 := Lib.hid (below_trans HBA.out hb1)
  clear hb1 hwa
  go_wp2
  go_ret
  exact ⟨rfl, HB1.out⟩

set_option maxHeartbeats 1600000 in
theorem rempty_any (w : World) : Calls Tryz.prog 72 #[] w fun e w' => e = .returned (.string em) ∧ Below w.heap.size w w' := by
  have HL := Lib.hid (rlist (some ⟨w.heap.size, 0, none⟩) 1 [bEmpty] (w.alloc (.cells #[.string bEmpty] 9)) (Strs_new _ _ _ _ _ rfl rfl) (by simp) (by intro s hs; rw [List.mem_singleton.1 hs]; decide))
  unfold bEmpty at HL
  go_enter Tryz.func72, Tryz.ntmps72
  go_wp2_with fail
  refine HL.out.mono ?_
  rintro e w1 ⟨rfl, hb1⟩
  have HB1 := Lib.hid (below_trans (below_alloc (Below.refl _ _) _) hb1)
  clear hb1
  go_wp2
  go_ret
  exact ⟨rfl, HB1.out⟩

set_option maxRecDepth 100000 in
set_option maxHeartbeats 8000000 in
theorem rroot_any (n : Nat) : ∀ (A : Option Addr) (c : Nat) (l : List ByteArray) (w : World), l.length ≤ n → l.length ≤ 100000 → l.length ≤ c → Strs w A l → sm l →
    Calls Tryz.prog 46 #[.slice A l.length c] w fun e w' => e = .returned (.string (rt l)) ∧ Below w.heap.size w w' := by
  induction n with
  | zero =>
    intro A c l w h1 h2 h3 hS hsm
    obtain rfl : l = [] := List.eq_nil_of_length_eq_zero (by omega)
    have HE := Lib.hid (rempty_any w)
    rw [rt_nil]
    clear hS hsm
    go_enter Tryz.func46, Tryz.ntmps46
    go_wp2_with fail
    refine HE.out.mono ?_
    rintro e w1 ⟨rfl, hb1⟩
    have HB1 := Lib.hid hb1
    clear hb1
    go_wp2
    go_ret
    exact ⟨rfl, HB1.out⟩
  | succ n ih =>
    intro A c l w hn hbig hcap hS hsm
    by_cases h2 : 2 ≤ l.length
    · obtain ⟨b, off, rfl, -⟩ := hS.2 (by omega)
      obtain ⟨k, hk⟩ : ∃ k, hf l.length = k := ⟨_, rfl⟩
      have HH := Lib.hid (rhalf_any l.length (by omega) w)
      rw [hk] at HH
      have k1 := hf_lt l.length h2
      have k2 := hf_pos l.length
      rw [hk] at k1 k2
      have hrt := rt_split l k h2 hk
      have hs1 := rt_size _ (hsm.take k)
      have hs2 := rt_size _ (hsm.drop k)
      have H1 : Hid (∀ W, Below w.heap.size w W → Calls Tryz.prog 46 #[.slice (some ⟨b, off, none⟩) k c] W fun e w' => e = .returned (.string (rt (l.take k))) ∧ Below w.heap.size w w') := Lib.hid (fun W hW => by
        have := ih (some ⟨b, off, none⟩) c (l.take k) W (by rw [List.length_take]; omega) (by rw [List.length_take]; omega) (by rw [List.length_take]; omega) ((hS.below hW).take k) (hsm.take k)
        rw [List.length_take, Nat.min_eq_left (by omega)] at this
        exact this.mono fun _ _ ⟨he, hb⟩ => ⟨he, below_trans hW hb⟩)
      have H2 : Hid (∀ W, Below w.heap.size w W → Calls Tryz.prog 46 #[.slice (some ⟨b, off + k, none⟩) (l.length - k) (c - k)] W fun e w' => e = .returned (.string (rt (l.drop k))) ∧ Below w.heap.size w w') := Lib.hid (fun W hW => by
        have := ih (some ⟨b, off + k, none⟩) (c - k) (l.drop k) W (by rw [List.length_drop]; omega) (by rw [List.length_drop]; omega) (by rw [List.length_drop]; omega) ((hS.below hW).drop k) (hsm.drop k)
        rw [List.length_drop] at this
        exact this.mono fun _ _ ⟨he, hb⟩ => ⟨he, below_trans hW hb⟩)
      have H3 : Hid (∀ W, Below w.heap.size w W → Calls Tryz.prog 73 #[.string (rt (l.take k)), .string (rt (l.drop k))] W fun e w' => e = .returned (.string (nd (rt (l.take k)) (rt (l.drop k)))) ∧ Below w.heap.size w w') := Lib.hid (fun W hW => (rnode_any _ _ hs1 hs2 W).mono fun _ _ ⟨he, hb⟩ => ⟨he, below_trans hW hb⟩)
      rw [hrt]
      generalize rt (l.take k) = r1 at *
      generalize rt (l.drop k) = r2 at *
      generalize l.length = m at *
      clear hrt hs1 hs2 hS hsm ih hk h2
      have hne : ((m : Int) == 1) = false := by simp; omega
      have hne0 : ((m : Int) == 0) = false := by simp; omega
      have hkm : (k : Int) ≤ (m : Int) := by omega
      have hkc : (k : Int) ≤ (c : Int) := by omega
      have hck : (c = k) = False := by simp; omega
      go_enter Tryz.func46, Tryz.ntmps46
      go_wp2_with fail
      refine HH.out.mono ?_
      rintro e _ ⟨rfl, rfl⟩
      go_wp2_with fail
      refine wp_region_below (by kernel_rfl) (by kernel_rfl) ?_
      refine wpQuiet_step (fun K hK => ?_)
      go_simp
      apply Exists.intro
      refine ⟨fun W hW => ?_, hK _ ?_⟩
      · (try go_simp
         exact rfl)
      clear hK K
      refine wpQuiet_step (fun K hK => ?_)
      go_simp
      apply Exists.intro
      refine ⟨fun W hW => ?_, hK _ ?_⟩
      · (try go_simp
         exact rfl)
      clear hK K
      refine wpQuiet_step (fun K hK => ?_)
      go_simp
      apply Exists.intro
      refine ⟨fun W hW => ?_, hK _ ?_⟩
      · (try go_simp
         exact rfl)
      clear hK K
      refine wpQuiet_step (fun K hK => ?_)
      go_simp
      apply Exists.intro
      refine ⟨fun W hW => ?_, hK _ ?_⟩
      · exact H1.out W hW
      clear hK K
      refine wpQuiet_step (fun K hK => ?_)
      go_simp
      apply Exists.intro
      refine ⟨fun W hW => ?_, hK _ ?_⟩
      · (try go_simp
         exact rfl)
      clear hK K
      refine wpQuiet_step (fun K hK => ?_)
      go_simp
      apply Exists.intro
      refine ⟨fun W hW => ?_, hK _ ?_⟩
      · (try go_simp
         exact rfl)
      clear hK K
      refine wpQuiet_step (fun K hK => ?_)
      go_simp
      apply Exists.intro
      refine ⟨fun W hW => ?_, hK _ ?_⟩
      · (try go_simp
         exact rfl)
      clear hK K
      refine wpQuiet_step (fun K hK => ?_)
      go_simp
      apply Exists.intro
      refine ⟨fun W hW => ?_, hK _ ?_⟩
      · exact H2.out W hW
      clear hK K
      refine wpQuiet_step (fun K hK => ?_)
      go_simp
      apply Exists.intro
      refine ⟨fun W hW => ?_, hK _ ?_⟩
      · exact H3.out W hW
      clear hK K
      refine wpQuiet_step (fun K hK => ?_)
      go_simp
      apply Exists.intro
      refine ⟨fun W hW => ?_, hK _ ?_⟩
      · (try go_simp
         exact rfl)
      clear hK K
      refine wpQuiet_nil ?_
      intro W hW
      go_wp2
      go_ret
      exact ⟨rfl, hW⟩
    · match l, h2, hS with
      | [], _, _ =>
        have HE := Lib.hid (rempty_any w)
        rw [rt_nil]
        clear hsm ih
        go_enter Tryz.func46, Tryz.ntmps46
        go_wp2_with fail
        refine HE.out.mono ?_
        rintro e w1 ⟨rfl, hb1⟩
        have HB1 := Lib.hid hb1
        clear hb1
        go_wp2
        go_ret
        exact ⟨rfl, HB1.out⟩
      | [x], _, hS =>
        obtain ⟨b, off, rfl, c0⟩ := hS.at_ (k := 0) (x := x) rfl
        have c0l := lt_of_cell c0
        rw [rt_one]
        clear ih hS hsm
        simp only [List.length_singleton, Nat.add_zero] at *
        go_enter Tryz.func46, Tryz.ntmps46
        go_wp2
        go_ret
        exact ⟨rfl, Below.refl _ _⟩
      | x :: y :: l, h2, _ => simp at h2

end Go.Proofs.YtbefcipeojahfaaGreatDoor
