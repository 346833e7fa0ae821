/- The law TreeGrows: the walk. -/
import Derived.Test.YtfmlhlliephlhaaDoorTreeHead02
import Derived.Test.YtfmlhlliephlhaaDoorOpen
namespace Go.Proofs.YtfmlhlliephlhaaDoor
open Go.RowKit

theorem bdig_le (n : Nat) : bdig n ≤ n := by
  induction n using Nat.strongRecOn with
  | _ n ih =>
    by_cases h : n = 0
    · subst h; rw [bdig]; simp
    · rw [bdig_pos n (by omega)]; have := ih (n / 2) (by omega); omega
theorem allD_lk (l : List ByteArray) (m : Nat) (w : Bool) (h : allD l = true) : allD (lk l m w) = true := by
  obtain ⟨n, hn⟩ : ∃ n, l.length = n := ⟨_, rfl⟩
  induction n using Nat.strongRecOn generalizing l m w with
  | _ n ih =>
    by_cases hc : m < l.length ∧ 2 ≤ l.length
    · have k1 := hf_lt l.length hc.2
      have k2 := hf_pos l.length
      by_cases hi : m ≤ hf l.length
      · rw [lk_le l m w hc.1 hc.2 hi]
        have h1 := ih _ (by rw [List.length_take]; omega) (l.take (hf l.length)) m w (allD_take h _) rfl
        have h2 := isD_rt _ (allD_drop h (hf l.length))
        simp only [allD, List.all_append, Bool.and_eq_true] at h1 ⊢
        exact ⟨h1, by simp [h2]⟩
      · rw [lk_gt l m w hc.1 hc.2 hi]
        have h1 := ih _ (by rw [List.length_drop]; omega) (l.drop (hf l.length)) (m - hf l.length) false (allD_drop h _) rfl
        have h2 := isD_rt _ (allD_take h (hf l.length))
        simp only [allD, List.all_append, Bool.and_eq_true] at h1 ⊢
        exact ⟨h1, by simp [h2]⟩
    · have e : lk l m w = if w then [] else [rt l] := by rw [lk, dif_neg hc]
      rw [e]
      have h2 := isD_rt _ h
      cases w <;> simp [allD, h2]
theorem allD_sm {l : List ByteArray} (h : allD l = true) : sm l := fun s hs => by
  simp only [allD, List.all_eq_true] at h
  rw [isD_16 (h s hs)]; omega

theorem grows_yes (l : List ByteArray) (m : Nat) (hD : allD l = true) (hm : 1 ≤ m) (hml : m ≤ l.length) (hn : l.length ≤ 1000000) : extB (rt (l.take m)) (m : Int) (rt l) (l.length : Int) (lk l m true) = true := by
  unfold extB
  have h1 : ((0 : Int) ≤ (m : Int) ∧ (m : Int) ≤ (l.length : Int) ∧ (l.length : Int) ≤ 1000000) := by omega
  have h2 : ¬ ((m : Int) = 0) := by omega
  rw [decide_eq_true h1, if_neg h2, allD_lk l m true hD, isD_rt _ (allD_take hD m), isD_rt _ hD, Int.toNat_natCast, Int.toNat_natCast, link_both l m true (rt (l.take m)) hm hml (fun _ => rfl), lk_len l m true hm]
  simp
theorem grows_no (l : List ByteArray) (hD : allD l = true) (hn : l.length ≤ 1000000) : extB em 0 (rt l) (l.length : Int) [] = true := by
  unfold extB
  have h1 : ((0 : Int) ≤ 0 ∧ (0 : Int) ≤ (l.length : Int) ∧ (l.length : Int) ≤ 1000000) := by omega
  rw [decide_eq_true h1, if_pos rfl, isD_em, isD_rt _ hD]
  by_cases h0 : l.length = 0
  · obtain rfl : l = [] := List.eq_nil_of_length_eq_zero h0
    rw [rt_nil]; simp [allD]
  · have : (0 : Int) < (l.length : Int) := by omega
    rw [decide_eq_true this]; simp [allD]

set_option maxHeartbeats 4000000 in
theorem tlink_zero (A : Option Addr) (c : Nat) (l : List ByteArray) (w : World) (hbig : l.length ≤ 100000) (hS : Strs w A l) (hsm : sm l) (hD : allD l = true) :
    Calls Tryd.prog 19 #[.slice A l.length c, .int .i64 0] w fun e w' => e = .returned (.tuple #[.slice none 0 0, .int .i64 0]) ∧ Below w.heap.size w w' := by
  have HPR := Lib.hid (proper_any A c l w (by omega) hS (fun s hs => by have := hsm s hs; omega))
  rw [hD] at HPR
  clear hS hsm hD
  go_enter Tryd.func19, Tryd.ntmps19
  go_wp2_with fail
  refine HPR.out.mono ?_
  rintro e w1 ⟨rfl, hb1⟩
  have HB1 := Lib.hid hb1
  clear hb1
  go_wp2
  go_ret2
  exact ⟨rfl, HB1.out⟩

set_option maxRecDepth 100000 in
set_option maxHeartbeats 32000000 in
theorem grows_walk (A : Option Addr) (c : Nat) (l : List ByteArray) (x : UInt8) (w : World) (hT : Tabs w) (hS : Strs w A l) (hl : l.length ≤ 9223372036854775807) (hc : l.length ≤ c) :
    Calls Tryd.prog 6 #[.slice A l.length c, .int .u8 x.toNat] w fun e w' => e = .returned (.bool true) ∧ Below w.heap.size w w' := by
  have HH := Lib.hid (head_any w hT)
  have HT : Hid (∀ W, Below w.heap.size w W → Tabs W) := Lib.hid (fun W hW => hT.below hW)
  have HS : Hid (∀ W, Below w.heap.size w W → Strs W A l) := Lib.hid (fun W hW => hS.below hW)
  have HG := Lib.hid (fun W (hW : Below w.heap.size w W) => lgood_any A c l W (hS.below hW) hl)
  clear hT hS
  have hx := x.toNat_lt
  obtain ⟨X, hX⟩ : ∃ X, x.toNat = X := ⟨_, rfl⟩
  rw [hX] at hx ⊢
  clear hX
  obtain ⟨v, hv⟩ : ∃ v, lgood l = v := ⟨_, rfl⟩
  have HV := Lib.hid hv
  rw [hv] at HG
  clear hv
  cases v with
  | false =>
    go_enter Tryd.func6, Tryd.ntmps6
    go_wp2_with fail
    refine HH.out.mono ?_
    rintro e w1 ⟨rfl, hb1⟩
    have HB1 := Lib.hid hb1
    clear hb1
    go_wp2_with fail
    refine (HG.out w1 HB1.out).mono ?_
    rintro e w2 ⟨rfl, hb2⟩
    have HB2 := Lib.hid (below_trans HB1.out hb2)
    clear hb2
    go_wp2
    go_ret
    exact ⟨rfl, HB2.out⟩
  | true =>
    obtain ⟨hD, h20, hsm⟩ := lgood_eq HV.out
    have HD := Lib.hid hD
    have HSM := Lib.hid hsm
    clear hD hsm
    obtain ⟨n, hn⟩ : ∃ n, l.length = n := ⟨_, rfl⟩
    have HN := Lib.hid hn
    rw [hn] at HG h20 hc hl ⊢
    clear hn
    obtain ⟨m, hm⟩ : ∃ m, X % (n + 1) = m := ⟨_, rfl⟩
    have hmn : m ≤ n := by have := Nat.mod_lt X (show 0 < n + 1 by omega); omega
    have hrem : (X : Int) % ((n : Int) + 1) = (m : Int) := by rw [← hm]; rfl
    have hfacts : ∃ P : List ByteArray, (∀ W, Below w.heap.size w W → Calls Tryd.prog 19 #[.slice A n c, .int .i64 (m : Int)] W fun e w' => ∃ A' c', e = .returned (.tuple #[.slice A' P.length c', .int .i64 0]) ∧ Strs w' A' P ∧ Below W.heap.size W w') ∧
        extB (rt (l.take m)) (m : Int) (rt l) (n : Int) P = true ∧ P.length ≤ bdig n + 1 ∧ (P.length = 0 ↔ (m = 0 ∨ m = n)) ∧ sm P := by
      have hN := HN.out
      by_cases h0 : m = 0
      · refine ⟨[], fun W hW => ?_, ?_, by simp, by simp [h0], fun s hs => by cases hs⟩
        · have := tlink_zero A c l W (by omega) (HS.out W hW) HSM.out HD.out
          rw [hN] at this
          rw [h0]
          exact this.mono fun _ _ ⟨he, hb⟩ => ⟨none, 0, he, ⟨rfl, fun h => by simp at h⟩, hb⟩
        · rw [h0, List.take_zero, rt_nil, ← hN]
          exact grows_no l HD.out (by omega)
      · refine ⟨lk l m true, fun W hW => ?_, ?_, ?_, ?_, allD_sm (allD_lk l m true HD.out)⟩
        · have := tlink_any A c l (m : Int) W (by omega) (by omega) (HS.out W hW) HSM.out (HT.out W hW) HD.out (by omega) (by omega)
          rw [hN, Int.toNat_natCast] at this
          exact this.mono fun _ _ ⟨A', c', he, _, h2, _, hb⟩ => ⟨A', c', he, h2, hb⟩
        · rw [← hN]; exact grows_yes l m HD.out (by omega) (by omega) (by omega)
        · rw [lk_len l m true (by omega), hN]; exact llen_bdig n m true (by omega) (by omega)
        · rw [lk_len l m true (by omega), hN, llen_zero n m (by omega)]; omega
    obtain ⟨P, hf1, hf2, hf3, hf4, hf5⟩ := hfacts
    have HLK := Lib.hid hf1
    have HEX : Hid (∀ (W : World) (A' : Option Addr) (c' : Nat), Below w.heap.size w W → Strs W A' P → Calls Tryd.prog 20 #[.string (rt (l.take m)), .int .i64 (m : Int), .string (rt l), .int .i64 (n : Int), .slice A' P.length c'] W fun e w' => e = .returned (.bool true) ∧ Below W.heap.size W w') := Lib.hid (fun W A' c' hW h1 => by
      have hz1 := rt_size _ (HSM.out.take m)
      have hz2 := rt_size _ HSM.out
      have hb := bdig_le n
      have := ext_any (rt (l.take m)) (m : Int) (rt l) (n : Int) A' c' P W (HT.out W hW) h1 (by omega) (by omega) (by omega) (fun s hs => by have := hf5 s hs; omega)
      rw [hf2] at this
      exact this)
    have HR1 : Hid (∀ (W : World) (A' : Option Addr) (c' : Nat), Below w.heap.size w W → m ≤ c' → Strs W A' (l.take m) → Calls Tryd.prog 10 #[.slice A' m c'] W fun e w' => e = .returned (.string (rt (l.take m))) ∧ Below W.heap.size W w') := Lib.hid (fun W A' c' hW hc' h1 => by
      have hN := HN.out
      have := rooted_any A' c' (l.take m) W (by rw [List.length_take]; omega) (by rw [List.length_take]; omega) h1 (HSM.out.take m) (HT.out W hW)
      rw [allD_take HD.out, if_pos rfl, List.length_take, hN, Nat.min_eq_left hmn] at this
      exact this)
    have HR2 : Hid (∀ (W : World), Below w.heap.size w W → Calls Tryd.prog 10 #[.slice A n c] W fun e w' => e = .returned (.string (rt l)) ∧ Below W.heap.size W w') := Lib.hid (fun W hW => by
      have hN := HN.out
      have := rooted_any A c l W (by omega) (by omega) (HS.out W hW) HSM.out (HT.out W hW)
      rw [HD.out, if_pos rfl, hN] at this
      exact this)
    have hbd := bdig_le n
    have HF4 := Lib.hid hf4
    clear hf1 hf2 hf4 hf5
    generalize rt (l.take m) = r1 at *
    generalize rt l = r2 at *
    generalize hPL : P.length = pl at *
    have HREM := Lib.hid hrem
    have HPL := Lib.hid hPL
    clear hm hrem hPL
    have hmc : (m : Int) ≤ (c : Int) := by omega
    have hmn' : (m : Int) ≤ (n : Int) := by omega
    go_enter Tryd.func6, Tryd.ntmps6
    go_wp2_with fail
    refine HH.out.mono ?_
    rintro e w1 ⟨rfl, hb1⟩
    have HB1 := Lib.hid hb1
    clear hb1
    go_wp2_with fail
    refine (HG.out w1 HB1.out).mono ?_
    rintro e w2 ⟨rfl, hb2⟩
    have HB2 := Lib.hid (below_trans HB1.out hb2)
    clear hb2
    go_wp2_with fail
    rw [HREM.out]
    refine (HLK.out w2 HB2.out).mono ?_
    rintro e w3 ⟨A', c', rfl, hs3, hb3⟩
    have HB3 := Lib.hid (below_trans HB2.out hb3)
    have HS3 := Lib.hid hs3
    clear hb3 hs3
    go_wp2_with fail
    go_loop [9, 10] (fun u9 u10 => ∃ v d : Nat, v ≤ n ∧ d + bdig v = bdig n ∧ u9 = .int .i64 d ∧ u10 = .int .i64 v) (fun _ u10 => (intOf u10).toNat)
    case atStart => exact ⟨n, 0, Nat.le_refl _, by omega, rfl, rfl⟩
    case round =>
    obtain ⟨v, d, hv, hd, rfl, rfl⟩ := hrel
    by_cases hlt : 0 < v
    · have hdv := bdig_pos v hlt
      have hvi : (0 : Int) < (v : Int) := by omega
      go_wp2
      go_round
      case rel => exact ⟨v / 2, d + 1, by omega, by omega, by go_num, by go_num⟩
      case measure => simp [intOf]; omega
    · obtain rfl : v = 0 := by omega
      have hd0 : bdig 0 = 0 := by rw [bdig]; simp
      obtain rfl : d = bdig n := by omega
      have hle : (pl : Int) ≤ (bdig n : Int) + 1 := by omega
      go_wp2_with fail
      refine (HR1.out w3 A c HB3.out (by omega) ((HS.out w3 HB3.out).take m)).mono ?_
      rintro e w4 ⟨rfl, hb4⟩
      have HX4 := Lib.hid hb4
      have HB4 := Lib.hid (below_trans HB3.out hb4)
      clear hb4
      go_wp2_with fail
      refine (HR2.out w4 HB4.out).mono ?_
      rintro e w5 ⟨rfl, hb5⟩
      have HX5 := Lib.hid (below_trans HX4.out hb5)
      have HB5 := Lib.hid (below_trans HB4.out hb5)
      clear hb5
      have hex := HEX.out w5 A' c' HB5.out (HS3.out.below HX5.out)
      have HEX5 := Lib.hid hex
      clear hex
      go_wp2_with fail
      refine HEX5.out.mono ?_
      rintro e w6 ⟨rfl, hb6⟩
      have HB6 := Lib.hid (below_trans HB5.out hb6)
      clear hb6
      have h4 := HF4.out
      have hpl2 := HPL.out
      by_cases hm0 : m = 0
      · have e1 : ((m : Int) == 0) = true := by rw [hm0]; rfl
        have e2 : ((pl : Int) == 0) = true := by rw [show pl = 0 by omega]; rfl
        clear h4 hpl2
        go_wp2
        go_ret
        exact ⟨rfl, HB6.out⟩
      · have e1 : ((m : Int) == 0) = false := by simp only [beq_eq_false_iff_ne, ne_eq]; omega
        by_cases hmn2 : m = n
        · have e2 : ((pl : Int) == 0) = true := by rw [show pl = 0 by omega]; rfl
          have e3 : ((m : Int) == (n : Int)) = true := by rw [hmn2]; simp
          clear h4 hpl2 hmn2
          go_wp2
          go_ret
          exact ⟨rfl, HB6.out⟩
        · have e2 : ((pl : Int) == 0) = false := by simp only [beq_eq_false_iff_ne, ne_eq]; omega
          have e3 : ((m : Int) == (n : Int)) = false := by simp only [beq_eq_false_iff_ne, ne_eq]; omega
          clear h4 hpl2
          go_wp2
          go_ret
          exact ⟨rfl, HB6.out⟩

end Go.Proofs.YtfmlhlliephlhaaDoor
