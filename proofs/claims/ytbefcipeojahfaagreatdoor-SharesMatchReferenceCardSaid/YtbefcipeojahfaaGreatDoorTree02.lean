/- Layer 2: half, node, Leaf, total. -/
import Derived.Test.YtbefcipeojahfaaGreatDoorPureT03
import Derived.Test.YtbefcipeojahfaaGreatDoorLaid01
import Derived.Test.YtbefcipeojahfaaGreatDoorQuietB
namespace Go.Proofs.YtbefcipeojahfaaGreatDoor
open Go.RowKit

def sm (l : List ByteArray) : Prop := ∀ s, s ∈ l → s.size ≤ 200
theorem sm.take {l : List ByteArray} (h : sm l) (k : Nat) : sm (l.take k) := fun s hs => h s (List.mem_of_mem_take hs)
theorem sm.drop {l : List ByteArray} (h : sm l) (k : Nat) : sm (l.drop k) := fun s hs => h s (List.mem_of_mem_drop hs)
theorem nd_size (a b : ByteArray) : (nd a b).size = 16 := dg_size _
theorem rt_size (l : List ByteArray) (h : sm l) : (rt l).size ≤ 200 := by
  by_cases h2 : 2 ≤ l.length
  · rw [rt_two l h2, nd_size]; omega
  · match l, h2 with
    | [], _ => rw [rt_nil]; show (dg _).size ≤ 200; rw [dg_size]; omega
    | [x], _ => rw [rt_one]; exact h x List.mem_cons_self
    | x :: y :: l, h2 => simp at h2
theorem Strs.take {w : World} {A : Option Addr} {xs : List ByteArray} (h : Strs w A xs) (k : Nat) : Strs w A (xs.take k) := by
  refine ⟨by simp, fun hn => ?_⟩
  have hl : 0 < xs.length := by rw [List.length_take] at hn; omega
  obtain ⟨b, off, e, hc⟩ := h.2 hl
  refine ⟨b, off, e, fun j u hu => hc j u ?_⟩
  rw [List.getElem?_map, List.getElem?_take] at hu
  rw [List.getElem?_map]
  split at hu
  · exact hu
  · simp at hu
theorem Strs.drop {w : World} {b off : Nat} {xs : List ByteArray} (h : Strs w (some ⟨b, off, none⟩) xs) (k : Nat) : Strs w (some ⟨b, off + k, none⟩) (xs.drop k) := by
  refine ⟨by simp, fun hn => ⟨b, off + k, rfl, fun j u hu => ?_⟩⟩
  have hl : 0 < xs.length := by rw [List.length_drop] at hn; omega
  obtain ⟨b', off', e, hc⟩ := h.2 hl
  obtain ⟨rfl, rfl⟩ : b = b' ∧ off = off' := by simpa using e
  rw [List.getElem?_map, List.getElem?_drop, ← List.getElem?_map] at hu
  rw [Nat.add_assoc]
  exact hc (k + j) u hu

set_option maxHeartbeats 1600000 in
theorem half_any (n : Nat) (h : n ≤ 1000000) (w : World) : Calls Tryz.prog 41 #[.int .i64 n] w fun e w' => e = .returned (.int .i64 (hf n)) ∧ w = w' := by
  go_enter Tryz.func41, Tryz.ntmps41
  go_wp2_with fail
  go_loop [3] (fun u => ∃ j k : Nat, k = 2 ^ j ∧ (k < n ∨ j = 0) ∧ u = .int .i64 k) (fun u => n - (intOf u).toNat)
  case atStart => exact ⟨0, 1, rfl, .inr rfl, rfl⟩
  case round =>
    obtain ⟨j, k, hk, hj, rfl⟩ := hrel
    have hk1 : 1 ≤ k := by rw [hk]; exact Nat.one_le_two_pow
    have hk2 : k ≤ 1000000 := by
      rcases hj with h1 | rfl
      · omega
      · simp at hk; omega
    have HK := Lib.hid hk
    have HJ := Lib.hid hj
    clear hk hj
    by_cases hlt : 2 * k < n
    · go_wp2
      go_round
      case rel => exact ⟨j + 1, 2 * k, by rw [HK.out, Nat.pow_succ]; omega, .inl hlt, by go_num⟩
      case measure => simp [intOf]; omega
    · have he : hf n = k := by
        have := hf_eq n j (by rcases HJ.out with h1 | h1; exact .inl (by rw [← HK.out]; exact h1); exact .inr h1) (by rw [← HK.out]; omega)
        rw [this, HK.out]
      have HE := Lib.hid he
      clear he
      go_wp2
      go_ret
      exact ⟨ret_int (by rw [HE.out]), rfl⟩

theorem jb3 (a b c : ByteArray) (ha : a.size ≤ 200) (hb : b.size ≤ 200) (hc : c.size ≤ 200) : (jn [a, b, c]).length ≤ 1000 := by
  have := jn_few [a, b, c] (by
    intro s hs
    simp only [List.mem_cons, List.not_mem_nil, or_false] at hs
    rcases hs with rfl | rfl | rfl <;> assumption)
  simp only [List.length_cons, List.length_nil] at this; omega
theorem jb2 (a b : ByteArray) (ha : a.size ≤ 200) (hb : b.size ≤ 200) : (jn [a, b]).length ≤ 1000 := by
  have := jn_few [a, b] (by
    intro s hs
    simp only [List.mem_cons, List.not_mem_nil, or_false] at hs
    rcases hs with rfl | rfl <;> assumption)
  simp only [List.length_cons, List.length_nil] at this; omega

set_option maxHeartbeats 1600000 in
theorem node_any (a b : ByteArray) (ha : a.size ≤ 200) (hb : b.size ≤ 200) (w : World) (hT : Tabs w) :
    Calls Tryz.prog 64 #[.string a, .string b] w fun e w' => e = .returned (.string (nd a b)) ∧ Below w.heap.size w w' := by
  obtain ⟨wa, hwa⟩ : ∃ wa, w.alloc (.cells #[.string bNode, .string a, .string b] 9) = wa := ⟨_, rfl⟩
  have HBA : Hid (Below w.heap.size w wa) := Lib.hid (by rw [← hwa]; exact below_alloc (Below.refl _ _) _)
  have HSA : Hid (Strs wa (some ⟨w.heap.size, 0, none⟩) [bNode, a, b]) := Lib.hid (by rw [← hwa]; exact Strs_new _ _ _ _ _ rfl rfl)
  have HWA := Lib.hid hwa
  have hj := jb3 bNode a b (by decide) ha hb
  have HL := Lib.hid (list_any (some ⟨w.heap.size, 0, none⟩) 3 [bNode, a, b] wa HSA.out (hT.below HBA.out) (by omega) (by simp))
  clear hwa hT hj
  go_enter Tryz.func64, Tryz.ntmps64
  go_wp2_with fail
  have hwa := HWA.out
  unfold bNode at hwa
  rw [hwa]
  refine HL.out.mono ?_
  rintro e w1 ⟨rfl, hb1⟩
  have HB1 := Lib.hid (below_trans HBA.out hb1)
  clear hb1 hwa
  go_wp2
  go_ret
  exact ⟨rfl, HB1.out⟩

set_option maxHeartbeats 1600000 in
theorem leaf_any (a : ByteArray) (ha : a.size ≤ 200) (w : World) (hT : Tabs w) :
    Calls Tryz.prog 34 #[.string a] w fun e w' => e = .returned (.string (lf a)) ∧ Below w.heap.size w w' := by
  obtain ⟨wa, hwa⟩ : ∃ wa, w.alloc (.cells #[.string bLeaf, .string a] 9) = wa := ⟨_, rfl⟩
  have HBA : Hid (Below w.heap.size w wa) := Lib.hid (by rw [← hwa]; exact below_alloc (Below.refl _ _) _)
  have HSA : Hid (Strs wa (some ⟨w.heap.size, 0, none⟩) [bLeaf, a]) := Lib.hid (by rw [← hwa]; exact Strs_new _ _ _ _ _ rfl rfl)
  have HWA := Lib.hid hwa
  have hj := jb2 bLeaf a (by decide) ha
  have HL := Lib.hid (list_any (some ⟨w.heap.size, 0, none⟩) 2 [bLeaf, a] wa HSA.out (hT.below HBA.out) (by omega) (by simp))
  clear hwa hT hj
  go_enter Tryz.func34, Tryz.ntmps34
  go_wp2_with fail
  have hwa := HWA.out
  unfold bLeaf at hwa
  rw [hwa]
  refine HL.out.mono ?_
  rintro e w1 ⟨rfl, hb1⟩
  have HB1 := Lib.hid (below_trans HBA.out hb1)
  clear hb1 hwa
  go_wp2
  go_ret
  exact ⟨rfl, HB1.out⟩

set_option maxRecDepth 100000 in
set_option maxHeartbeats 8000000 in
theorem totalc_any (n : Nat) : ∀ (fb : Nat) (A : Option Addr) (c : Nat) (l : List ByteArray) (w : World), l.length ≤ n → 1 ≤ l.length → l.length ≤ 1000000 → l.length ≤ c →
    w.cell? ⟨fb, 0, none⟩ = some (.func (.func 70) #[] #[.pointer (some ⟨fb, 0, none⟩)]) → Strs w A l → sm l → Tabs w →
    Calls Tryz.prog 70 #[.slice A l.length c, .pointer (some ⟨fb, 0, none⟩)] w fun e w' => e = .returned (.string (rt l)) ∧ Below w.heap.size w w' := by
  induction n with
  | zero => intro fb A c l w h1 h2; omega
  | succ n ih =>
    intro fb A c l w hn h1 hbig hcap hfc hS hsm hT
    have IH := Lib.hid ih
    by_cases h2 : 2 ≤ l.length
    · obtain ⟨b, off, rfl, -⟩ := hS.2 (by omega)
      obtain ⟨k, hk⟩ : ∃ k, hf l.length = k := ⟨_, rfl⟩
      have HH := Lib.hid (half_any l.length hbig w)
      rw [hk] at HH
      have k1 := hf_lt l.length h2
      have k2 := hf_pos l.length
      rw [hk] at k1 k2
      have hrt := rt_split l k h2 hk
      have hs1 := rt_size _ (hsm.take k)
      have hs2 := rt_size _ (hsm.drop k)
      have H1 : Hid (∀ W, Below w.heap.size w W → Calls Tryz.prog 70 #[.slice (some ⟨b, off, none⟩) k c, .pointer (some ⟨fb, 0, none⟩)] W fun e w' => e = .returned (.string (rt (l.take k))) ∧ Below w.heap.size w w') := Lib.hid (fun W hW => by
        have := ih fb (some ⟨b, off, none⟩) c (l.take k) W (by rw [List.length_take]; omega) (by rw [List.length_take]; omega) (by rw [List.length_take]; omega) (by rw [List.length_take]; omega) (kept_cell hW hfc) ((hS.below hW).take k) (hsm.take k) (hT.below hW)
        rw [List.length_take, Nat.min_eq_left (by omega)] at this
        exact this.mono fun _ _ ⟨he, hb⟩ => ⟨he, below_trans hW hb⟩)
      have H2 : Hid (∀ W, Below w.heap.size w W → Calls Tryz.prog 70 #[.slice (some ⟨b, off + k, none⟩) (l.length - k) (c - k), .pointer (some ⟨fb, 0, none⟩)] W fun e w' => e = .returned (.string (rt (l.drop k))) ∧ Below w.heap.size w w') := Lib.hid (fun W hW => by
        have := ih fb (some ⟨b, off + k, none⟩) (c - k) (l.drop k) W (by rw [List.length_drop]; omega) (by rw [List.length_drop]; omega) (by rw [List.length_drop]; omega) (by rw [List.length_drop]; omega) (kept_cell hW hfc) ((hS.below hW).drop k) (hsm.drop k) (hT.below hW)
        rw [List.length_drop] at this
        exact this.mono fun _ _ ⟨he, hb⟩ => ⟨he, below_trans hW hb⟩)
      have H3 : Hid (∀ W, Below w.heap.size w W → Calls Tryz.prog 64 #[.string (rt (l.take k)), .string (rt (l.drop k))] W fun e w' => e = .returned (.string (nd (rt (l.take k)) (rt (l.drop k)))) ∧ Below w.heap.size w w') := Lib.hid (fun W hW => (node_any _ _ hs1 hs2 W (hT.below hW)).mono fun _ _ ⟨he, hb⟩ => ⟨he, below_trans hW hb⟩)
      have HC : Hid (∀ W, Below w.heap.size w W → W.cell? ⟨fb, 0, none⟩ = some (.func (.func 70) #[] #[.pointer (some ⟨fb, 0, none⟩)])) := Lib.hid (fun W hW => kept_cell hW hfc)
      rw [hrt]
      generalize rt (l.take k) = r1 at *
      generalize rt (l.drop k) = r2 at *
      generalize l.length = m at *
      clear hrt hs1 hs2 hS hsm hT hfc IH ih hk h2
      have hne : ¬ (m : Int) = 1 := by omega
      have hkm : (k : Int) ≤ (m : Int) := by omega
      have hkc : (k : Int) ≤ (c : Int) := by omega
      have hck : (c = k) = False := by simp; omega
      go_enter Tryz.func70, Tryz.ntmps70
      go_wp2_with fail
      refine HH.out.mono ?_
      rintro e _ ⟨rfl, rfl⟩
      go_wp2_with fail
      refine wp_region_below (by kernel_rfl) (by kernel_rfl) ?_
      refine wpQuiet_step (fun K hK => ?_)
      go_simp
      apply Exists.intro
      refine ⟨fun W hW => ?_, hK _ ?_⟩
      · (have c1 := HC.out W hW
         try go_simp
         exact rfl)
      clear hK K
      refine wpQuiet_step (fun K hK => ?_)
      go_simp
      apply Exists.intro
      refine ⟨fun W hW => ?_, hK _ ?_⟩
      · (try go_simp
         exact rfl)
      clear hK K
      refine wpQuiet_step (fun K hK => ?_)
      go_simp
      apply Exists.intro
      refine ⟨fun W hW => ?_, hK _ ?_⟩
      · (try go_simp
         exact rfl)
      clear hK K
      refine wpQuiet_step (fun K hK => ?_)
      go_simp
      apply Exists.intro
      refine ⟨fun W hW => ?_, hK _ ?_⟩
      · (try go_simp
         exact rfl)
      clear hK K
      refine wpQuiet_step (fun K hK => ?_)
      go_simp
      apply Exists.intro
      refine ⟨fun W hW => ?_, hK _ ?_⟩
      · (try go_simp
         exact H1.out W hW)
      clear hK K
      refine wpQuiet_step (fun K hK => ?_)
      go_simp
      apply Exists.intro
      refine ⟨fun W hW => ?_, hK _ ?_⟩
      · (have c1 := HC.out W hW
         try go_simp
         exact rfl)
      clear hK K
      refine wpQuiet_step (fun K hK => ?_)
      go_simp
      apply Exists.intro
      refine ⟨fun W hW => ?_, hK _ ?_⟩
      · (try go_simp
         exact rfl)
      clear hK K
      refine wpQuiet_step (fun K hK => ?_)
      go_simp
      apply Exists.intro
      refine ⟨fun W hW => ?_, hK _ ?_⟩
      · (try go_simp
         exact rfl)
      clear hK K
      refine wpQuiet_step (fun K hK => ?_)
      go_simp
      apply Exists.intro
      refine ⟨fun W hW => ?_, hK _ ?_⟩
      · (try go_simp
         exact rfl)
      clear hK K
      refine wpQuiet_step (fun K hK => ?_)
      go_simp
      apply Exists.intro
      refine ⟨fun W hW => ?_, hK _ ?_⟩
      · (try go_simp
         exact H2.out W hW)
      clear hK K
      refine wpQuiet_step (fun K hK => ?_)
      go_simp
      apply Exists.intro
      refine ⟨fun W hW => ?_, hK _ ?_⟩
      · (try go_simp
         exact H3.out W hW)
      clear hK K
      refine wpQuiet_step (fun K hK => ?_)
      go_simp
      apply Exists.intro
      refine ⟨fun W hW => ?_, hK _ ?_⟩
      · (try go_simp
         exact rfl)
      clear hK K
      refine wpQuiet_nil ?_
      intro W hW
      go_wp2
      go_ret
      exact ⟨rfl, hW⟩
    · obtain ⟨x, rfl⟩ : ∃ x, l = [x] := by
        match l, h1, h2 with
        | [x], _, _ => exact ⟨x, rfl⟩
        | x :: y :: l, _, h2 => simp at h2
      obtain ⟨b, off, rfl, c0⟩ := hS.at_ (k := 0) (x := x) rfl
      have c0l := lt_of_cell c0
      rw [rt_one]
      clear ih IH hS hsm hT
      simp only [List.length_singleton, Nat.add_zero] at *
      go_enter Tryz.func70, Tryz.ntmps70
      go_wp2
      go_ret
      exact ⟨rfl, Below.refl _ _⟩

end Go.Proofs.YtbefcipeojahfaaGreatDoor
