/- Layer 2: Extends. -/
import Derived.Test.YtfmlhlliephlhaaGreatDoorTreeE02
namespace Go.Proofs.YtfmlhlliephlhaaGreatDoor
open Go.RowKit

def extB (old : ByteArray) (m : Int) (root : ByteArray) (n : Int) (p : List ByteArray) : Bool :=
  decide (0 ≤ m ∧ m ≤ n ∧ n ≤ 1000000) && (allD p && ((isD old && isD root) &&
    (if m = 0 then decide (p.length = 0) && (decide (old = em) && (decide (0 < n) || decide (root = old)))
      else decide ((bothv n.toNat m.toNat true old p).1 = old) && (decide ((bothv n.toNat m.toNat true old p).2 = root) && decide (p.length = llen n.toNat m.toNat true)))))

set_option maxRecDepth 100000 in
set_option maxHeartbeats 32000000 in
theorem ext_any (old : ByteArray) (m : Int) (root : ByteArray) (n : Int) (A : Option Addr) (c : Nat) (p : List ByteArray) (w : World) (hT : Tabs w) (hS : Strs w A p) (hbig : p.length ≤ 1000000) (ho : old.size ≤ 1000000000) (hr : root.size ≤ 1000000000) (hsz : ∀ s, s ∈ p → s.size ≤ 1000000000) :
    Calls Tryz.prog 17 #[.string old, .int .i64 m, .string root, .int .i64 n, .slice A p.length c] w fun e w' => e = .returned (.bool (extB old m root n p)) ∧ Below w.heap.size w w' := by
  obtain ⟨w1, hw1⟩ : ∃ w1, w.alloc (.cells #[.string old] 9) = w1 := ⟨_, rfl⟩
  have HB1 : Hid (Below w.heap.size w w1) := Lib.hid (by rw [← hw1]; exact below_alloc (Below.refl _ _) _)
  have HC1 : Hid (Blk w1 w.heap.size 9 #[.string old]) := Lib.hid (by rw [← hw1]; exact Blk.new _ _ _ _ rfl)
  have HCL := Lib.hid (clone_any A c p w1 (hS.below HB1.out) hbig)
  have HW1 := Lib.hid hw1
  have HT := Lib.hid (fun W (hW : Below w.heap.size w W) => hT.below hW)
  have HSZ := Lib.hid hsz
  have HHS : Hid (w1.heap.size = w.heap.size + 1) := Lib.hid (by rw [← hw1]; simp)
  have hlw1 : w.heap.size < w1.heap.size := by rw [HHS.out]; omega
  clear hw1 hS hT hsz
  go_enter Tryz.func17, Tryz.ntmps17
  go_wp2_with fail
  rw [HW1.out]
  refine HCL.out.mono ?_
  rintro e w2 ⟨A', c', rfl, hS2, hc', hA2, hb2⟩
  have HB2 := Lib.hid (below_trans HB1.out hb2)
  have HL2 := Lib.hid (HC1.out.chg (Chg.of_below hb2 []) (by simp))
  have HS2 := Lib.hid hS2
  have HCC := Lib.hid hc'
  have HA2 := Lib.hid hA2
  have hl2 : w.heap.size < w2.heap.size := Nat.lt_of_lt_of_le hlw1 hb2.size
  clear hS2 hc' hA2 hb2 HCL
  obtain ⟨w3, hw3⟩ : ∃ w3, w2.alloc (.cells #[.slice A' p.length c'] 37) = w3 := ⟨_, rfl⟩
  have HB3 : Hid (Below w.heap.size w w3) := Lib.hid (by rw [← hw3]; exact below_alloc HB2.out _)
  have HD3 : Hid (Blk w3 w2.heap.size 37 #[.slice A' p.length c']) := Lib.hid (by rw [← hw3]; exact Blk.new _ _ _ _ rfl)
  have HS3 : Hid (Strs w3 A' p) := Lib.hid (by rw [← hw3]; exact HS2.out.below (below_alloc (Below.refl _ _) _))
  have HL3 : Hid (Blk w3 w.heap.size 9 #[.string old]) := Lib.hid (by rw [← hw3]; exact HL2.out.alloc _)
  have HW3 := Lib.hid hw3
  have hl3 : w2.heap.size < w3.heap.size := by rw [← hw3]; simp
  have d3 := HD3.out.cell 0
  have l3 := HL3.out.cell 0
  simp only [List.getElem?_toArray, List.getElem?_cons_zero] at d3 l3
  clear hw3
  by_cases hni : 0 ≤ m ∧ m ≤ n ∧ n ≤ 1000000
  · obtain ⟨g1, g2, g3⟩ := hni
    obtain ⟨nn, rfl⟩ : ∃ nn : Nat, n = nn := ⟨n.toNat, by omega⟩
    obtain ⟨mm, rfl⟩ : ∃ mm : Nat, m = mm := ⟨m.toNat, by omega⟩
    have hchk : extB old mm root nn p = (allD p && ((isD old && isD root) &&
    (if (mm : Int) = 0 then decide (p.length = 0) && (decide (old = em) && (decide ((0 : Int) < nn) || decide (root = old)))
      else decide ((bothv nn mm true old p).1 = old) && (decide ((bothv nn mm true old p).2 = root) && decide (p.length = llen nn mm true))))) := by
      unfold extB
      have : ((0 : Int) ≤ mm ∧ (mm : Int) ≤ nn ∧ (nn : Int) ≤ 1000000) := ⟨g1, g2, g3⟩
      rw [decide_eq_true this, Bool.true_and, Int.toNat_natCast, Int.toNat_natCast]
    have HCHK := Lib.hid hchk
    have HPR := Lib.hid (proper_any A' c' p w3 hbig HS3.out HSZ.out)
    have hnm : ¬ nn < mm := by omega
    clear hchk
    go_wp2_with fail
    rw [HW3.out]
    refine HPR.out.mono ?_
    rintro e w4 ⟨rfl, hb4⟩
    have HB4 := Lib.hid (below_trans HB3.out hb4)
    have HD4 := Lib.hid (HD3.out.chg (Chg.of_below hb4 []) (by simp))
    have HL4 := Lib.hid (HL3.out.chg (Chg.of_below hb4 []) (by simp))
    have HS4 := Lib.hid (HS3.out.below hb4)
    have l4 := HL4.out.cell 0
    simp only [List.getElem?_toArray, List.getElem?_cons_zero] at l4
    have ll4 := HL4.out.lt
    clear d3 l3 hb4
    cases hall : allD p with
    | false =>
      rw [hall] at HCHK
      clear hall
      go_wp2
      go_ret
      exact ⟨ret_bool (by rw [HCHK.out]; rfl), HB4.out⟩
    | true =>
    have HALL := Lib.hid hall
    rw [hall] at HCHK
    obtain ⟨wq, hwq⟩ : ∃ wq, w4.alloc (.cells #[.string old, .string root] 9) = wq := ⟨_, rfl⟩
    have HBQ : Hid (Below w4.heap.size w4 wq) := Lib.hid (by rw [← hwq]; exact below_alloc (Below.refl _ _) _)
    have HPQ := Lib.hid (proper_any (some ⟨w4.heap.size, 0, none⟩) 2 [old, root] wq (by simp) (by rw [← hwq]; exact Strs_new _ _ _ _ _ rfl rfl) (by
      intro s hs
      simp only [List.mem_cons, List.not_mem_nil, or_false] at hs
      rcases hs with rfl | rfl <;> assumption))
    have e2 : allD [old, root] = (isD old && isD root) := by simp [allD]
    rw [e2] at HPQ
    have HWQ := Lib.hid hwq
    clear hall hwq e2
    go_wp2_with fail
    rw [HWQ.out]
    refine HPQ.out.mono ?_
    rintro e w5 ⟨rfl, hb5'⟩
    have hb5 : Below w4.heap.size w4 w5 := below_trans HBQ.out hb5'
    have HB5 := Lib.hid (below_trans HB4.out hb5)
    have HD5 := Lib.hid (HD4.out.chg (Chg.of_below hb5 []) (by simp))
    have HL5 := Lib.hid (HL4.out.chg (Chg.of_below hb5 []) (by simp))
    have HS5 := Lib.hid (HS4.out.below hb5)
    have hl5 := HD5.out.lt
    have l5 := HL5.out.cell 0
    simp only [List.getElem?_toArray, List.getElem?_cons_zero] at l5
    have ll5 := HL5.out.lt
    clear l4 hb5 hb5' ll4
    cases hd : isD old && isD root with
    | false =>
      rw [hd] at HCHK
      clear hd
      go_wp2
      go_ret
      exact ⟨ret_bool (by rw [HCHK.out]; rfl), HB5.out⟩
    | true =>
    have hl16 := isD_16 (Bool.and_eq_true_iff.1 hd).1
    rw [hd] at HCHK
    clear hd
    simp only [Bool.true_and] at HCHK
    by_cases h0 : mm = 0
    · subst h0
      rw [if_pos (show ((0 : Nat) : Int) = 0 from rfl)] at HCHK
      have HTN : Hid (∀ W, Below w5.heap.size w5 W → Calls Tryz.prog 23 #[.slice none 0 0] W fun e w' => e = .returned (.string em) ∧ Below w5.heap.size w5 w') := Lib.hid (fun W hW => by
        have := total_any none 0 [] W (by simp) (by simp) ⟨rfl, fun h => by simp at h⟩ (fun s hs => by cases hs) (HT.out W (below_trans HB5.out hW))
        rw [rt_nil] at this
        exact this.mono fun _ _ ⟨he, hb⟩ => ⟨he, below_trans hW hb⟩)
      obtain ⟨E, hE⟩ : ∃ E, em = E := ⟨_, rfl⟩
      rw [hE] at HCHK HTN
      clear hE
      obtain ⟨b1, hb1⟩ : ∃ b, decide (old = E) = b := ⟨_, rfl⟩
      have hbe1 : (old.toList == E.toList) = b1 := by rw [beq_bytes]; exact hb1
      obtain ⟨b2, hb2⟩ : ∃ b, decide (root = old) = b := ⟨_, rfl⟩
      have hbe2 : (root.toList == old.toList) = b2 := by rw [beq_bytes]; exact hb2
      rw [hb1, hb2] at HCHK
      have hz : ((((0 : Nat) : Int)) == 0) = true := rfl
      clear hb1 hb2
      by_cases hp0 : p.length = 0
      · have hpe : ((p.length : Int) == 0) = true := by rw [hp0]; rfl
        rw [decide_eq_true hp0, Bool.true_and] at HCHK
        cases b1 with
        | false =>
          go_wp2_with fail
          refine wp_region_below (by kernel_rfl) (by kernel_rfl) ?_
          refine wpQuiet_step (fun K hK => ?_)
          go_simp
          apply Exists.intro
          refine ⟨fun W hW => ?_, hK _ ?_⟩
          · (try go_simp
             exact rfl)
          clear hK K
          refine wpQuiet_step (fun K hK => ?_)
          go_simp
          apply Exists.intro
          refine ⟨fun W hW => ?_, hK _ ?_⟩
          · (try go_simp
             exact rfl)
          clear hK K
          refine wpQuiet_step (fun K hK => ?_)
          go_simp
          apply Exists.intro
          refine ⟨fun W hW => ?_, hK _ ?_⟩
          · (try go_simp
             exact rfl)
          clear hK K
          refine wpQuiet_step (fun K hK => ?_)
          go_simp
          apply Exists.intro
          refine ⟨fun W hW => ?_, hK _ ?_⟩
          · (try go_simp
             exact rfl)
          clear hK K
          refine wpQuiet_step (fun K hK => ?_)
          go_simp
          apply Exists.intro
          refine ⟨fun W hW => ?_, hK _ ?_⟩
          · (have cc := kept_cell hW l5
             try go_simp
             exact rfl)
          clear hK K
          refine wpQuiet_step (fun K hK => ?_)
          go_simp
          apply Exists.intro
          refine ⟨fun W hW => ?_, hK _ ?_⟩
          · exact HTN.out W hW
          clear hK K
          refine wpQuiet_step (fun K hK => ?_)
          go_simp
          apply Exists.intro
          refine ⟨fun W hW => ?_, hK _ ?_⟩
          · (try go_simp
             exact rfl)
          clear hK K
          refine wpQuiet_step (fun K hK => ?_)
          go_simp
          apply Exists.intro
          refine ⟨fun W hW => ?_, hK _ ?_⟩
          · (try go_simp
             exact rfl)
          clear hK K
          refine wpQuiet_step (fun K hK => ?_)
          go_simp
          apply Exists.intro
          refine ⟨fun W hW => ?_, hK _ ?_⟩
          · (try go_simp
             exact rfl)
          clear hK K
          refine wpQuiet_step (fun K hK => ?_)
          go_simp
          refine hK _ ?_
          clear hK K
          refine wpQuiet_step (fun K hK => ?_)
          go_simp
          refine hK _ ?_
          clear hK K
          refine wpQuiet_step (fun K hK => ?_)
          go_simp
          refine hK _ ?_
          clear hK K
          refine wpQuiet_step (fun K hK => ?_)
          go_simp
          refine hK _ ?_
          clear hK K
          refine wpQuiet_step (fun K hK => ?_)
          go_simp
          refine hK _ ?_
          clear hK K
          refine wpQuiet_step (fun K hK => ?_)
          go_simp
          refine hK _ ?_
          clear hK K
          refine wpQuiet_step (fun K hK => ?_)
          go_simp
          refine hK _ ?_
          clear hK K
          refine wpQuiet_step (fun K hK => ?_)
          go_simp
          apply Exists.intro
          refine ⟨fun W hW => ?_, hK _ ?_⟩
          · (try go_simp
             exact rfl)
          clear hK K
          refine wpQuiet_step (fun K hK => ?_)
          go_simp
          apply Exists.intro
          refine ⟨fun W hW => ?_, hK _ ?_⟩
          · (try go_simp
             exact rfl)
          clear hK K
          refine wpQuiet_nil ?_
          intro W hW
          go_wp2
          go_ret
          exact ⟨ret_bool ((show _ = _ from by rfl).trans HCHK.out.symm), below_trans HB5.out hW⟩
        | true =>
          by_cases hn0 : (0 : Int) < nn
          · have hnd : decide ((0 : Int) < nn) = true := decide_eq_true hn0
            rw [hnd] at HCHK
            have hnz : ¬ nn = 0 := by omega
            go_wp2_with fail
            refine wp_region_below (by kernel_rfl) (by kernel_rfl) ?_
            refine wpQuiet_step (fun K hK => ?_)
            go_simp
            apply Exists.intro
            refine ⟨fun W hW => ?_, hK _ ?_⟩
            · (try go_simp
               exact rfl)
            clear hK K
            refine wpQuiet_step (fun K hK => ?_)
            go_simp
            apply Exists.intro
            refine ⟨fun W hW => ?_, hK _ ?_⟩
            · (try go_simp
               exact rfl)
            clear hK K
            refine wpQuiet_step (fun K hK => ?_)
            go_simp
            apply Exists.intro
            refine ⟨fun W hW => ?_, hK _ ?_⟩
            · (try go_simp
               exact rfl)
            clear hK K
            refine wpQuiet_step (fun K hK => ?_)
            go_simp
            apply Exists.intro
            refine ⟨fun W hW => ?_, hK _ ?_⟩
            · (try go_simp
               exact rfl)
            clear hK K
            refine wpQuiet_step (fun K hK => ?_)
            go_simp
            apply Exists.intro
            refine ⟨fun W hW => ?_, hK _ ?_⟩
            · (have cc := kept_cell hW l5
               try go_simp
               exact rfl)
            clear hK K
            refine wpQuiet_step (fun K hK => ?_)
            go_simp
            apply Exists.intro
            refine ⟨fun W hW => ?_, hK _ ?_⟩
            · exact HTN.out W hW
            clear hK K
            refine wpQuiet_step (fun K hK => ?_)
            go_simp
            apply Exists.intro
            refine ⟨fun W hW => ?_, hK _ ?_⟩
            · (try go_simp
               exact rfl)
            clear hK K
            refine wpQuiet_step (fun K hK => ?_)
            go_simp
            apply Exists.intro
            refine ⟨fun W hW => ?_, hK _ ?_⟩
            · (try go_simp
               exact rfl)
            clear hK K
            refine wpQuiet_step (fun K hK => ?_)
            go_simp
            apply Exists.intro
            refine ⟨fun W hW => ?_, hK _ ?_⟩
            · (try go_simp
               exact rfl)
            clear hK K
            refine wpQuiet_step (fun K hK => ?_)
            go_simp
            apply Exists.intro
            refine ⟨fun W hW => ?_, hK _ ?_⟩
            · (try go_simp
               exact rfl)
            clear hK K
            refine wpQuiet_step (fun K hK => ?_)
            go_simp
            apply Exists.intro
            refine ⟨fun W hW => ?_, hK _ ?_⟩
            · (try go_simp
               exact rfl)
            clear hK K
            refine wpQuiet_step (fun K hK => ?_)
            go_simp
            apply Exists.intro
            refine ⟨fun W hW => ?_, hK _ ?_⟩
            · (try go_simp
               exact rfl)
            clear hK K
            refine wpQuiet_step (fun K hK => ?_)
            go_simp
            refine hK _ ?_
            clear hK K
            refine wpQuiet_step (fun K hK => ?_)
            go_simp
            refine hK _ ?_
            clear hK K
            refine wpQuiet_step (fun K hK => ?_)
            go_simp
            refine hK _ ?_
            clear hK K
            refine wpQuiet_step (fun K hK => ?_)
            go_simp
            apply Exists.intro
            refine ⟨fun W hW => ?_, hK _ ?_⟩
            · (try go_simp
               exact rfl)
            clear hK K
            refine wpQuiet_step (fun K hK => ?_)
            go_simp
            apply Exists.intro
            refine ⟨fun W hW => ?_, hK _ ?_⟩
            · (try go_simp
               exact rfl)
            clear hK K
            refine wpQuiet_step (fun K hK => ?_)
            go_simp
            apply Exists.intro
            refine ⟨fun W hW => ?_, hK _ ?_⟩
            · (try go_simp
               exact rfl)
            clear hK K
            refine wpQuiet_nil ?_
            intro W hW
            go_wp2
            go_ret
            exact ⟨ret_bool ((show _ = _ from by rfl).trans HCHK.out.symm), below_trans HB5.out hW⟩
          · obtain rfl : nn = 0 := by omega
            have hnd : decide ((0 : Int) < ((0 : Nat) : Int)) = false := rfl
            rw [hnd] at HCHK
            go_wp2_with fail
            refine wp_region_below (by kernel_rfl) (by kernel_rfl) ?_
            refine wpQuiet_step (fun K hK => ?_)
            go_simp
            apply Exists.intro
            refine ⟨fun W hW => ?_, hK _ ?_⟩
            · (try go_simp
               exact rfl)
            clear hK K
            refine wpQuiet_step (fun K hK => ?_)
            go_simp
            apply Exists.intro
            refine ⟨fun W hW => ?_, hK _ ?_⟩
            · (try go_simp
               exact rfl)
            clear hK K
            refine wpQuiet_step (fun K hK => ?_)
            go_simp
            apply Exists.intro
            refine ⟨fun W hW => ?_, hK _ ?_⟩
            · (try go_simp
               exact rfl)
            clear hK K
            refine wpQuiet_step (fun K hK => ?_)
            go_simp
            apply Exists.intro
            refine ⟨fun W hW => ?_, hK _ ?_⟩
            · (try go_simp
               exact rfl)
            clear hK K
            refine wpQuiet_step (fun K hK => ?_)
            go_simp
            apply Exists.intro
            refine ⟨fun W hW => ?_, hK _ ?_⟩
            · (have cc := kept_cell hW l5
               try go_simp
               exact rfl)
            clear hK K
            refine wpQuiet_step (fun K hK => ?_)
            go_simp
            apply Exists.intro
            refine ⟨fun W hW => ?_, hK _ ?_⟩
            · exact HTN.out W hW
            clear hK K
            refine wpQuiet_step (fun K hK => ?_)
            go_simp
            apply Exists.intro
            refine ⟨fun W hW => ?_, hK _ ?_⟩
            · (try go_simp
               exact rfl)
            clear hK K
            refine wpQuiet_step (fun K hK => ?_)
            go_simp
            apply Exists.intro
            refine ⟨fun W hW => ?_, hK _ ?_⟩
            · (try go_simp
               exact rfl)
            clear hK K
            refine wpQuiet_step (fun K hK => ?_)
            go_simp
            apply Exists.intro
            refine ⟨fun W hW => ?_, hK _ ?_⟩
            · (try go_simp
               exact rfl)
            clear hK K
            refine wpQuiet_step (fun K hK => ?_)
            go_simp
            apply Exists.intro
            refine ⟨fun W hW => ?_, hK _ ?_⟩
            · (try go_simp
               exact rfl)
            clear hK K
            refine wpQuiet_step (fun K hK => ?_)
            go_simp
            apply Exists.intro
            refine ⟨fun W hW => ?_, hK _ ?_⟩
            · (try go_simp
               exact rfl)
            clear hK K
            refine wpQuiet_step (fun K hK => ?_)
            go_simp
            apply Exists.intro
            refine ⟨fun W hW => ?_, hK _ ?_⟩
            · (try go_simp
               exact rfl)
            clear hK K
            refine wpQuiet_step (fun K hK => ?_)
            go_simp
            apply Exists.intro
            refine ⟨fun W hW => ?_, hK _ ?_⟩
            · (try go_simp
               exact rfl)
            clear hK K
            refine wpQuiet_step (fun K hK => ?_)
            go_simp
            apply Exists.intro
            refine ⟨fun W hW => ?_, hK _ ?_⟩
            · (have cc := kept_cell hW l5
               try go_simp
               exact rfl)
            clear hK K
            refine wpQuiet_step (fun K hK => ?_)
            go_simp
            apply Exists.intro
            refine ⟨fun W hW => ?_, hK _ ?_⟩
            · (try go_simp
               exact rfl)
            clear hK K
            refine wpQuiet_step (fun K hK => ?_)
            go_simp
            apply Exists.intro
            refine ⟨fun W hW => ?_, hK _ ?_⟩
            · (try go_simp
               exact rfl)
            clear hK K
            refine wpQuiet_step (fun K hK => ?_)
            go_simp
            apply Exists.intro
            refine ⟨fun W hW => ?_, hK _ ?_⟩
            · (try go_simp
               exact rfl)
            clear hK K
            refine wpQuiet_step (fun K hK => ?_)
            go_simp
            apply Exists.intro
            refine ⟨fun W hW => ?_, hK _ ?_⟩
            · (try go_simp
               exact rfl)
            clear hK K
            refine wpQuiet_nil ?_
            intro W hW
            go_wp2
            go_ret
            exact ⟨ret_bool ((show _ = _ from by simp).trans HCHK.out.symm), below_trans HB5.out hW⟩
      · have hpe : ((p.length : Int) == 0) = false := by simp only [beq_eq_false_iff_ne, ne_eq]; omega
        rw [decide_eq_false hp0, Bool.false_and] at HCHK
        go_wp2_with fail
        refine wp_region_below (by kernel_rfl) (by kernel_rfl) ?_
        refine wpQuiet_step (fun K hK => ?_)
        go_simp
        apply Exists.intro
        refine ⟨fun W hW => ?_, hK _ ?_⟩
        · (try go_simp
           exact rfl)
        clear hK K
        refine wpQuiet_step (fun K hK => ?_)
        go_simp
        apply Exists.intro
        refine ⟨fun W hW => ?_, hK _ ?_⟩
        · (try go_simp
           exact rfl)
        clear hK K
        refine wpQuiet_step (fun K hK => ?_)
        go_simp
        apply Exists.intro
        refine ⟨fun W hW => ?_, hK _ ?_⟩
        · (try go_simp
           exact rfl)
        clear hK K
        refine wpQuiet_step (fun K hK => ?_)
        go_simp
        apply Exists.intro
        refine ⟨fun W hW => ?_, hK _ ?_⟩
        · (try go_simp
           exact rfl)
        clear hK K
        refine wpQuiet_step (fun K hK => ?_)
        go_simp
        refine hK _ ?_
        clear hK K
        refine wpQuiet_step (fun K hK => ?_)
        go_simp
        refine hK _ ?_
        clear hK K
        refine wpQuiet_step (fun K hK => ?_)
        go_simp
        refine hK _ ?_
        clear hK K
        refine wpQuiet_step (fun K hK => ?_)
        go_simp
        apply Exists.intro
        refine ⟨fun W hW => ?_, hK _ ?_⟩
        · (try go_simp
           exact rfl)
        clear hK K
        refine wpQuiet_step (fun K hK => ?_)
        go_simp
        apply Exists.intro
        refine ⟨fun W hW => ?_, hK _ ?_⟩
        · (try go_simp
           exact rfl)
        clear hK K
        refine wpQuiet_step (fun K hK => ?_)
        go_simp
        refine hK _ ?_
        clear hK K
        refine wpQuiet_step (fun K hK => ?_)
        go_simp
        refine hK _ ?_
        clear hK K
        refine wpQuiet_step (fun K hK => ?_)
        go_simp
        refine hK _ ?_
        clear hK K
        refine wpQuiet_step (fun K hK => ?_)
        go_simp
        refine hK _ ?_
        clear hK K
        refine wpQuiet_step (fun K hK => ?_)
        go_simp
        refine hK _ ?_
        clear hK K
        refine wpQuiet_step (fun K hK => ?_)
        go_simp
        refine hK _ ?_
        clear hK K
        refine wpQuiet_step (fun K hK => ?_)
        go_simp
        refine hK _ ?_
        clear hK K
        refine wpQuiet_step (fun K hK => ?_)
        go_simp
        apply Exists.intro
        refine ⟨fun W hW => ?_, hK _ ?_⟩
        · (try go_simp
           exact rfl)
        clear hK K
        refine wpQuiet_step (fun K hK => ?_)
        go_simp
        apply Exists.intro
        refine ⟨fun W hW => ?_, hK _ ?_⟩
        · (try go_simp
           exact rfl)
        clear hK K
        refine wpQuiet_nil ?_
        intro W hW
        go_wp2
        go_ret
        exact ⟨ret_bool ((show _ = _ from by rfl).trans HCHK.out.symm), below_trans HB5.out hW⟩
    · have h0' : ¬ ((mm : Int) = 0) := by omega
      have h0b : ((mm : Int) == 0) = false := by simp; omega
      rw [if_neg h0'] at HCHK
      clear h0'
      go_wp2_with fail
      obtain ⟨w6, hw6⟩ : ∃ w6, (((w5.alloc (.cells #[.pointer (some ⟨w2.heap.size, 0, none⟩), .bool false] 47)).alloc (.cells #[.pointer (some ⟨w5.heap.size, 0, none⟩)] 44)).alloc
          (.cells #[.func (.func 40) #[] #[.pointer (some ⟨w.heap.size, 0, none⟩), .pointer (some ⟨w5.heap.size + 1, 0, none⟩), .pointer (some ⟨w5.heap.size + 1 + 1, 0, none⟩)]] 53)) = w6 := ⟨_, rfl⟩
      have hb6 : Below w5.heap.size w5 w6 := by rw [← hw6]; exact below_alloc (below_alloc (below_alloc (Below.refl _ _) _) _) _
      have HB6 := Lib.hid (below_trans HB5.out hb6)
      have hc6 := Chg.of_below hb6 []
      have hP6 : Blk w6 w5.heap.size 47 #[.pointer (some ⟨w2.heap.size, 0, none⟩), .bool false] := by
        rw [← hw6]; exact ((Blk.new w5 _ _ _ rfl).alloc _).alloc _
      have hV6 : Blk w6 (w5.heap.size + 1) 44 #[.pointer (some ⟨w5.heap.size, 0, none⟩)] := by
        rw [← hw6]; exact (Blk.new _ _ _ _ (by simp)).alloc _
      have hU6 : Blk w6 (w5.heap.size + 1 + 1) 53 #[.func (.func 40) #[] #[.pointer (some ⟨w.heap.size, 0, none⟩), .pointer (some ⟨w5.heap.size + 1, 0, none⟩), .pointer (some ⟨w5.heap.size + 1 + 1, 0, none⟩)]] := by
        rw [← hw6]; exact Blk.new _ _ _ _ (by simp)
      have hl52 : w2.heap.size < w5.heap.size := hl5
      have hpr6 : PrS w6 w2.heap.size w5.heap.size p false := by
        refine ⟨⟨A', c', HD5.out.chg hc6 (by simp), HS5.out.below hb6, HCC.out, fun a ha hm => ?_⟩, hP6, by omega, hbig, HALL.out⟩
        have := HA2.out a ha
        simp only [List.mem_cons, List.not_mem_nil, or_false] at hm
        omega
      have HCALL := Lib.hid (extc_any w (HT.out w (Below.refl _ _)) w.heap.size (w5.heap.size + 1) (w5.heap.size + 1 + 1) w2.heap.size w5.heap.size old (by omega) (by omega) (by omega)
        (by simp only [List.mem_cons, List.not_mem_nil, or_false]; omega) (by simp only [List.mem_cons, List.not_mem_nil, or_false]; omega) (by simp only [List.mem_cons, List.not_mem_nil, or_false]; omega)
        nn nn mm true p false w6 (Nat.le_refl _) (by omega) (by omega) (by omega) HB6.out hpr6 ((HL5.out.chg hc6 (by simp)).cell 0) (hV6.cell 0) (hU6.cell 0))
      have HV6 := Lib.hid hV6
      have HL6 := Lib.hid (HL5.out.chg hc6 (by simp))
      have HNL : Hid (w.heap.size ∉ [w2.heap.size, w5.heap.size]) := Lib.hid (by simp only [List.mem_cons, List.not_mem_nil, or_false]; omega)
      have HNV : Hid (w5.heap.size + 1 ∉ [w2.heap.size, w5.heap.size]) := Lib.hid (by simp only [List.mem_cons, List.not_mem_nil, or_false]; omega)
      have HFB : Hid (∀ w', Chg [w2.heap.size, w5.heap.size] w6 w' → Below w.heap.size w w') := Lib.hid (fun w' hc => HB6.out.trans (hc.below (fun k hk => by
        simp only [List.mem_cons, List.not_mem_nil, or_false] at hk
        rcases hk with rfl | rfl <;> omega) HB6.out.size))
      have HW6 := Lib.hid hw6
      clear hb6 hc6 hP6 hV6 hU6 hpr6 hw6 l5 ll5
      rw [HW6.out]
      refine HCALL.out.mono ?_
      rintro e w7 ⟨rfl, hc7, hp7⟩
      have HV7 := Lib.hid (HV6.out.chg hc7 HNV.out)
      have v7 := HV7.out.cell 0
      have o7 := (HL6.out.chg hc7 HNL.out).cell 0
      simp only [List.getElem?_toArray, List.getElem?_cons_zero] at v7 o7
      have lv7 := HV7.out.lt
      have lo7 := (HL6.out.chg hc7 HNL.out).lt
      have HDN := Lib.hid (done_any w2.heap.size w5.heap.size _ _ w7 hp7)
      rw [chk_done] at HDN
      have HB7 := Lib.hid (HFB.out w7 hc7)
      clear hc7 hp7 HCALL
      obtain ⟨u, hu⟩ : ∃ u, bothv nn mm true old p = u := ⟨_, rfl⟩
      rw [hu] at HCHK
      rw [hu]
      clear hu
      obtain ⟨u1, u2⟩ := u
      obtain ⟨b1, hb1⟩ : ∃ b, decide (u1 = old) = b := ⟨_, rfl⟩
      have hbe1 : (u1.toList == old.toList) = b1 := by rw [beq_bytes]; exact hb1
      obtain ⟨b2, hb2⟩ : ∃ b, decide (u2 = root) = b := ⟨_, rfl⟩
      have hbe2 : (u2.toList == root.toList) = b2 := by rw [beq_bytes]; exact hb2
      simp only at HCHK
      rw [hb1, hb2] at HCHK
      clear hb1 hb2
      cases b1 with
      | false =>
        go_wp2
        go_ret
        exact ⟨ret_bool (by rw [HCHK.out]; rfl), HB7.out⟩
      | true =>
      cases b2 with
      | false =>
        go_wp2
        go_ret
        exact ⟨ret_bool (by rw [HCHK.out]; rfl), HB7.out⟩
      | true =>
        go_wp2_with fail
        refine HDN.out.mono ?_
        rintro e _ ⟨rfl, rfl⟩
        go_wp2
        go_ret
        exact ⟨ret_bool (by rw [HCHK.out]; simp), HB7.out⟩
  · have hchk : extB old m root n p = false := by unfold extB; rw [decide_eq_false hni, Bool.false_and]
    have HCHK := Lib.hid hchk
    clear hchk
    have hor : m < 0 ∨ (0 ≤ m ∧ n < m) ∨ (0 ≤ m ∧ m ≤ n ∧ 1000000 < n) := by omega
    clear hni
    rcases hor with g1 | ⟨g1, g2⟩ | ⟨g1, g2, g3⟩
    all_goals
      go_wp2_with fail
      rw [HW3.out]
      go_wp2
      go_ret
      exact ⟨ret_bool HCHK.out.symm, HB3.out⟩

end Go.Proofs.YtfmlhlliephlhaaGreatDoor
