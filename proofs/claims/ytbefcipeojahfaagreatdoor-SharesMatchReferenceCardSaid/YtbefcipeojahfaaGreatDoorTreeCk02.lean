/- Layer 2: Clone, Check. -/
import Derived.Test.YtbefcipeojahfaaGreatDoorTreeK02
namespace Go.Proofs.YtbefcipeojahfaaGreatDoor
open Go.RowKit

theorem clone_any (A : Option Addr) (c : Nat) (l : List ByteArray) (w : World) (hS : Strs w A l) (hbig : l.length ≤ 1000000) :
    Calls Tryz.prog 60 #[.slice A l.length c] w fun e w' => ∃ A' c', e = .returned (.slice A' l.length c') ∧ Strs w' A' l ∧ l.length ≤ c' ∧ (∀ a, A' = some a → w.heap.size ≤ a.block ∧ a.block < w'.heap.size) ∧ Below w.heap.size w w' := by
  have own : ∀ (w' : World) (v : Value), w'.ownsRow w.heap.size 9 1 v l.length (l.map Value.string) → Below w.heap.size w w' → ∃ A' c', (Ending.returned v : Ending) = .returned (.slice A' l.length c') ∧ Strs w' A' l ∧ l.length ≤ c' ∧ (∀ a, A' = some a → w.heap.size ≤ a.block ∧ a.block < w'.heap.size) ∧ Below w.heap.size w w' := fun w' v ho hb => by
    obtain ⟨A', c', rfl, h1, -, h3⟩ := Rd.of_own ho
    refine ⟨A', c', rfl, h3, h1, fun a ha => ?_, hb⟩
    subst ha
    exact ho.lt a.block rfl
  by_cases h0 : l.length = 0
  · obtain rfl : l = [] := List.eq_nil_of_length_eq_zero h0
    cases A with
    | none =>
      refine (Tryz.slices_Clone_string_nil 0 c w).mono ?_
      rintro e w' ⟨rfl, rfl⟩
      exact ⟨none, 0, rfl, ⟨rfl, fun h => by simp at h⟩, Nat.le_refl _, fun a ha => (by cases ha), Below.refl _ _⟩
    | some a =>
      refine (Tryz.slices_Clone_string_zero a c w).mono ?_
      rintro e w' ⟨v, rfl, ho, -, hb⟩
      exact own w' v ho hb
  · obtain ⟨b, off, rfl, hc⟩ := hS.2 (by omega)
    refine (Tryz.slices_Clone_string b off l.length c l w (Nat.le_refl _) (by omega) (fun j hj => ?_)).mono ?_
    · have := hc j (.string l[j]) (by simp [hj])
      rw [this]
      simp [List.getD, hj]
    · rintro e w' ⟨v, rfl, ho, -, hb⟩
      rw [List.take_length] at ho
      exact own w' v ho hb

def chkB (root : ByteArray) (n i : Int) (leaf : ByteArray) (p : List ByteArray) : Bool :=
  decide (n ≤ 1000000 ∧ 0 ≤ i ∧ i < n) && allD p && isD leaf && (decide (upv n.toNat i.toNat leaf p = root) && decide (p.length = plen n.toNat i.toNat))

theorem chk_done (p : List ByteArray) (k : Nat) : (!(false || decide (p.length < k)) && decide ((rem p k).length = 0)) = decide (p.length = k) := by
  unfold rem
  rw [List.length_take]
  by_cases h1 : p.length < k
  · have : ¬ p.length = k := by omega
    simp [h1, this]
  · by_cases h2 : p.length = k
    · simp [h2]
    · have : ¬ min (p.length - k) p.length = 0 := by omega
      simp [h1, h2, this]; omega

set_option maxRecDepth 100000 in
set_option maxHeartbeats 16000000 in
theorem tcheck_any (root : ByteArray) (n i : Int) (leaf : ByteArray) (A : Option Addr) (c : Nat) (p : List ByteArray) (w : World) (hT : Tabs w) (hS : Strs w A p) (hbig : p.length ≤ 1000000) (hleaf : leaf.size ≤ 1000000000) (hsz : ∀ s, s ∈ p → s.size ≤ 1000000000) :
    Calls Tryz.prog 38 #[.string root, .int .i64 n, .int .i64 i, .string leaf, .slice A p.length c] w fun e w' => e = .returned (.bool (chkB root n i leaf p)) ∧ Below w.heap.size w w' := by
  obtain ⟨w1, hw1⟩ : ∃ w1, w.alloc (.cells #[.string leaf] 9) = w1 := ⟨_, rfl⟩
  have HB1 : Hid (Below w.heap.size w w1) := Lib.hid (by rw [← hw1]; exact below_alloc (Below.refl _ _) _)
  have HC1 : Hid (Blk w1 w.heap.size 9 #[.string leaf]) := Lib.hid (by rw [← hw1]; exact Blk.new _ _ _ _ rfl)
  have HCL := Lib.hid (clone_any A c p w1 (hS.below HB1.out) hbig)
  have HW1 := Lib.hid hw1
  have HT := Lib.hid (fun W (hW : Below w.heap.size w W) => hT.below hW)
  have HSZ := Lib.hid hsz
  have HHS : Hid (w1.heap.size = w.heap.size + 1) := Lib.hid (by rw [← hw1]; simp)
  have hlw1 : w.heap.size < w1.heap.size := by rw [HHS.out]; omega
  clear hw1 hS hT hsz
  go_enter Tryz.func38, Tryz.ntmps38
  go_wp2_with fail
  rw [HW1.out]
  refine HCL.out.mono ?_
  rintro e w2 ⟨A', c', rfl, hS2, hc', hA2, hb2⟩
  have HB2 := Lib.hid (below_trans HB1.out hb2)
  have HL2 := Lib.hid (HC1.out.chg (Chg.of_below hb2 []) (by simp))
  have HS2 := Lib.hid hS2
  have HCC := Lib.hid hc'
  have HA2 := Lib.hid hA2
  have hl2 : w.heap.size < w2.heap.size := Nat.lt_of_lt_of_le hlw1 hb2.size
  have HL21 : Hid (w1.heap.size ≤ w2.heap.size) := Lib.hid hb2.size
  clear hS2 hc' hA2 hb2 HCL
  obtain ⟨w3, hw3⟩ : ∃ w3, w2.alloc (.cells #[.slice A' p.length c'] 64) = w3 := ⟨_, rfl⟩
  have HB3 : Hid (Below w.heap.size w w3) := Lib.hid (by rw [← hw3]; exact below_alloc HB2.out _)
  have HD3 : Hid (Blk w3 w2.heap.size 64 #[.slice A' p.length c']) := Lib.hid (by rw [← hw3]; exact Blk.new _ _ _ _ rfl)
  have HS3 : Hid (Strs w3 A' p) := Lib.hid (by rw [← hw3]; exact HS2.out.below (below_alloc (Below.refl _ _) _))
  have HL3 : Hid (Blk w3 w.heap.size 9 #[.string leaf]) := Lib.hid (by rw [← hw3]; exact HL2.out.alloc _)
  have HW3 := Lib.hid hw3
  have hl3 : w2.heap.size < w3.heap.size := by rw [← hw3]; simp
  have d3 := HD3.out.cell 0
  have l3 := HL3.out.cell 0
  simp only [List.getElem?_toArray, List.getElem?_cons_zero] at d3 l3
  clear hw3
  by_cases hni : n ≤ 1000000 ∧ 0 ≤ i ∧ i < n
  · obtain ⟨g1, g2, g3⟩ := hni
    obtain ⟨nn, rfl⟩ : ∃ nn : Nat, n = nn := ⟨n.toNat, by omega⟩
    obtain ⟨ii, rfl⟩ : ∃ ii : Nat, i = ii := ⟨i.toNat, by omega⟩
    have hchk : chkB root nn ii leaf p = (allD p && isD leaf && (decide (upv nn ii leaf p = root) && decide (p.length = plen nn ii))) := by
      unfold chkB
      have : ((nn : Int) ≤ 1000000 ∧ (0 : Int) ≤ ii ∧ (ii : Int) < nn) := ⟨g1, g2, g3⟩
      rw [decide_eq_true this, Bool.true_and, Int.toNat_natCast, Int.toNat_natCast]
    have HCHK := Lib.hid hchk
    have HPR := Lib.hid (proper_any A' c' p w3 hbig HS3.out HSZ.out)
    clear hchk
    go_wp2_with fail
    rw [HW3.out]
    refine HPR.out.mono ?_
    rintro e w4 ⟨rfl, hb4⟩
    have HB4 := Lib.hid (below_trans HB3.out hb4)
    have HD4 := Lib.hid (HD3.out.chg (Chg.of_below hb4 []) (by simp))
    have HL4 := Lib.hid (HL3.out.chg (Chg.of_below hb4 []) (by simp))
    have HS4 := Lib.hid (HS3.out.below hb4)
    have l4 := HL4.out.cell 0
    simp only [List.getElem?_toArray, List.getElem?_cons_zero] at l4
    have ll4 := HL4.out.lt
    clear d3 l3 hb4
    cases hall : allD p with
    | false =>
      rw [hall] at HCHK
      have HH := Lib.hid hall
      clear hall
      go_wp2
      go_ret
      exact ⟨ret_bool (by rw [HCHK.out]; rfl), HB4.out⟩
    | true =>
    have HALL := Lib.hid hall
    rw [hall] at HCHK
    have HIS := Lib.hid (is_any leaf w4 hleaf)
    clear hall
    go_wp2_with fail
    refine HIS.out.mono ?_
    rintro e w5 ⟨rfl, hb5⟩
    have HB5 := Lib.hid (below_trans HB4.out hb5)
    have HD5 := Lib.hid (HD4.out.chg (Chg.of_below hb5 []) (by simp))
    have HL5 := Lib.hid (HL4.out.chg (Chg.of_below hb5 []) (by simp))
    have HS5 := Lib.hid (HS4.out.below hb5)
    have hl5 := HD5.out.lt
    clear l4 hb5
    cases hd : isD leaf with
    | false =>
      rw [hd] at HCHK
      clear hd
      go_wp2
      go_ret
      exact ⟨ret_bool (by rw [HCHK.out]; rfl), HB5.out⟩
    | true =>
    have hl16 := isD_16 hd
    rw [hd] at HCHK
    clear hd
    go_wp2_with fail
    obtain ⟨w6, hw6⟩ : ∃ w6, (((w5.alloc (.cells #[.pointer (some ⟨w2.heap.size, 0, none⟩), .bool false] 75)).alloc (.cells #[.pointer (some ⟨w5.heap.size, 0, none⟩)] 72)).alloc
        (.cells #[.func (.func 62) #[] #[.pointer (some ⟨w.heap.size, 0, none⟩), .pointer (some ⟨w5.heap.size + 1, 0, none⟩), .pointer (some ⟨w5.heap.size + 1 + 1, 0, none⟩)]] 76)) = w6 := ⟨_, rfl⟩
    have hb6 : Below w5.heap.size w5 w6 := by rw [← hw6]; exact below_alloc (below_alloc (below_alloc (Below.refl _ _) _) _) _
    have HB6 := Lib.hid (below_trans HB5.out hb6)
    have hc6 := Chg.of_below hb6 []
    have hP6 : Blk w6 w5.heap.size 75 #[.pointer (some ⟨w2.heap.size, 0, none⟩), .bool false] := by
      rw [← hw6]; exact ((Blk.new w5 _ _ _ rfl).alloc _).alloc _
    have hV6 : Blk w6 (w5.heap.size + 1) 72 #[.pointer (some ⟨w5.heap.size, 0, none⟩)] := by
      rw [← hw6]; exact (Blk.new _ _ _ _ (by simp)).alloc _
    have hU6 : Blk w6 (w5.heap.size + 1 + 1) 76 #[.func (.func 62) #[] #[.pointer (some ⟨w.heap.size, 0, none⟩), .pointer (some ⟨w5.heap.size + 1, 0, none⟩), .pointer (some ⟨w5.heap.size + 1 + 1, 0, none⟩)]] := by
      rw [← hw6]; exact Blk.new _ _ _ _ (by simp)
    have hl52 : w2.heap.size < w5.heap.size := hl5
    have hpr6 : PrS w6 w2.heap.size w5.heap.size p false := by
      refine ⟨⟨A', c', HD5.out.chg hc6 (by simp), HS5.out.below hb6, HCC.out, fun a ha hm => ?_⟩, hP6, by omega, hbig, HALL.out⟩
      have := HA2.out a ha
      simp only [List.mem_cons, List.not_mem_nil, or_false] at hm
      omega
    have HCALL := Lib.hid (checkc_any w (HT.out w (Below.refl _ _)) w.heap.size (w5.heap.size + 1) (w5.heap.size + 1 + 1) w2.heap.size w5.heap.size leaf (by omega) (by omega) (by omega)
      (by simp only [List.mem_cons, List.not_mem_nil, or_false]; omega) (by simp only [List.mem_cons, List.not_mem_nil, or_false]; omega) (by simp only [List.mem_cons, List.not_mem_nil, or_false]; omega)
      nn nn ii p false w6 (Nat.le_refl _) (by omega) (by omega) (by omega) HB6.out hpr6 ((HL5.out.chg hc6 (by simp)).cell 0) (hV6.cell 0) (hU6.cell 0))
    have HV6 := Lib.hid hV6
    have HNV : Hid (w5.heap.size + 1 ∉ [w2.heap.size, w5.heap.size]) := Lib.hid (by simp only [List.mem_cons, List.not_mem_nil, or_false]; omega)
    have HFB : Hid (∀ w', Chg [w2.heap.size, w5.heap.size] w6 w' → Below w.heap.size w w') := Lib.hid (fun w' hc => HB6.out.trans (hc.below (fun k hk => by
      simp only [List.mem_cons, List.not_mem_nil, or_false] at hk
      rcases hk with rfl | rfl <;> omega) HB6.out.size))
    have HW6 := Lib.hid hw6
    clear hb6 hc6 hP6 hV6 hU6 hpr6 hw6
    rw [HW6.out]
    refine HCALL.out.mono ?_
    rintro e w7 ⟨rfl, hc7, hp7⟩
    have HV7 := Lib.hid (HV6.out.chg hc7 HNV.out)
    have v7 := HV7.out.cell 0
    simp only [List.getElem?_toArray, List.getElem?_cons_zero] at v7
    have lv7 := HV7.out.lt
    have HDN := Lib.hid (done_any w2.heap.size w5.heap.size _ _ w7 hp7)
    rw [chk_done] at HDN
    have HB7 := Lib.hid (HFB.out w7 hc7)
    clear hc7 hp7 HCALL
    obtain ⟨b, hb⟩ : ∃ b, decide (upv nn ii leaf p = root) = b := ⟨_, rfl⟩
    have hbe : ((upv nn ii leaf p).toList == root.toList) = b := by rw [beq_bytes]; exact hb
    rw [hb] at HCHK
    clear hb
    generalize upv nn ii leaf p = u at *
    cases b with
    | false =>
      go_wp2
      go_ret
      exact ⟨ret_bool (by rw [HCHK.out]; rfl), HB7.out⟩
    | true =>
      go_wp2_with fail
      refine HDN.out.mono ?_
      rintro e _ ⟨rfl, rfl⟩
      go_wp2
      go_ret
      exact ⟨ret_bool (by rw [HCHK.out]; simp), HB7.out⟩
  · have hchk : chkB root n i leaf p = false := by unfold chkB; simp only [decide_eq_false hni, Bool.false_and]
    have HCHK := Lib.hid hchk
    clear hchk
    have hor : 1000000 < n ∨ (n ≤ 1000000 ∧ i < 0) ∨ (n ≤ 1000000 ∧ 0 ≤ i ∧ n ≤ i) := by omega
    clear hni
    rcases hor with g1 | ⟨g1, g2⟩ | ⟨g1, g2, g3⟩
    all_goals
      go_wp2_with fail
      rw [HW3.out]
      go_wp2
      go_ret
      exact ⟨ret_bool HCHK.out.symm, HB3.out⟩

end Go.Proofs.YtbefcipeojahfaaGreatDoor
