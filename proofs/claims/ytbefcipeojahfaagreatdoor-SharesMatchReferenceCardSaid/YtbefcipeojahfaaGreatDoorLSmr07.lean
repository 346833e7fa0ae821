/- The law SharesMatchReference: the walk. -/
import Derived.Test.YtbefcipeojahfaaGreatDoorRSplC
import Derived.Test.YtbefcipeojahfaaGreatDoorRJoinC
import Derived.Test.YtbefcipeojahfaaGreatDoorShRootC
import Derived.Test.YtbefcipeojahfaaGreatDoorRecover
import Derived.Test.YtbefcipeojahfaaGreatDoorFew01
namespace Go.Proofs.YtbefcipeojahfaaGreatDoor
open Go.RowKit

theorem splitL_len (secret need total : Int) (random : List Int) : (splitL secret need total random).length ≤ 16 := by
  unfold splitL
  cases h : splitOk secret need total random
  · simp
  · rw [if_pos rfl, shs_length]
    simp only [splitOk, Bool.and_eq_true, decide_eq_true_eq] at h
    omega

theorem few60 {l : List ByteArray} (h : fewB l 60 = true) : sm l := by
  simp only [fewB, Bool.and_eq_true, decide_eq_true_eq, List.all_eq_true] at h
  exact fun s hs => by have := h.1 s hs; omega

set_option maxRecDepth 100000 in
set_option maxHeartbeats 64000000 in
theorem smr_walk (secret need total : Int) (A : Option Addr) (c : Nat) (random : List Int) (B : Option Addr) (d : Nat) (l : List (Int × Int)) (root : ByteArray) (s : Int × Int) (C : Option Addr) (f : Nat) (p : List ByteArray) (w : World) (hT : Tabs w) (hA : Ints w A random) (hB : Prs w B l) (hC : Strs w C p)
    (hl1 : random.length ≤ 9223372036854775807) (hl2 : l.length ≤ 9223372036854775807) (hl3 : p.length ≤ 9223372036854775807) (hcl : l.length ≤ d) (hcp : p.length ≤ f) (hzr : root.size ≤ maxLen) :
    Calls Tryz.prog 3 #[.int .i64 secret, .int .i64 need, .int .i64 total, .slice A random.length c, .slice B l.length d, .string root, .agg #[.int .i64 s.1, .int .i64 s.2], .slice C p.length f] w fun e w' => e = .returned (.bool true) ∧ Below w.heap.size w w' := by
  unfold maxLen at hzr
  obtain ⟨w0, hw0⟩ : ∃ w0, w.alloc (.cells #[.int .i64 s.1, .int .i64 s.2] 25) = w0 := ⟨_, rfl⟩
  have HB0 : Hid (Below w.heap.size w w0) := Lib.hid (by rw [← hw0]; exact below_alloc (Below.refl _ _) _)
  have HK : Hid (∀ W, Below w0.heap.size w0 W → W.cell? ⟨w.heap.size, 0, none⟩ = some (.int .i64 s.1) ∧ W.cell? ⟨w.heap.size, 1, none⟩ = some (.int .i64 s.2)) := Lib.hid (fun W hW => by
    have hb : Blk w0 w.heap.size 25 #[.int .i64 s.1, .int .i64 s.2] := by rw [← hw0]; exact Blk.new w _ _ _ rfl
    exact ⟨kept_cell hW (hb.of_cell rfl), kept_cell hW (hb.of_cell rfl)⟩)
  have HH := Lib.hid (head_any w0)
  have HT : Hid (∀ W, Below w0.heap.size w0 W → Tabs W) := Lib.hid (fun W hW => (hT.below HB0.out).below hW)
  have HA : Hid (∀ W, Below w0.heap.size w0 W → Ints W A random) := Lib.hid (fun W hW => (hA.below HB0.out).below hW)
  have HL : Hid (∀ W, Below w0.heap.size w0 W → Prs W B l) := Lib.hid (fun W hW => (hB.below HB0.out).below hW)
  have HP : Hid (∀ W, Below w0.heap.size w0 W → Strs W C p) := Lib.hid (fun W hW => (hC.below HB0.out).below hW)
  have HFP := Lib.hid (fun W (hW : Below w0.heap.size w0 W) => few_any C f p 60 W (HP.out W hW) hl3)
  have HW0 := Lib.hid hw0
  clear hw0 hA hB hC hT
  obtain ⟨vp, hvp⟩ : ∃ v, fewB p 60 = v := ⟨_, rfl⟩
  have HVP := Lib.hid hvp
  rw [hvp] at HFP
  clear hvp
  by_cases hz_a : 40 < random.length
  case pos =>
    have hd1_a : decide (40 < random.length) = true := decide_eq_true hz_a
    have hi1_a : (40 : Int) < (random.length : Int) := by omega
    have hd2_a : decide ((40 : Int) < (random.length : Int)) = true := decide_eq_true hi1_a
    have hi3_a : ((random.length : Int) ≤ 40) = False := eq_false (by omega)
    go_enter Tryz.func3, Tryz.ntmps3
    go_wp2_with fail
    rw [HW0.out]
    refine HH.out.mono ?_
    rintro e w1 ⟨rfl, hb1⟩
    have HB1 := Lib.hid hb1
    clear hb1
    go_wp2
    go_ret
    exact ⟨rfl, below_trans HB0.out HB1.out⟩
  case neg =>
  have hd1_a : decide (40 < random.length) = false := decide_eq_false hz_a
  have hi1_a : ¬ (40 : Int) < (random.length : Int) := by omega
  have hd2_a : decide ((40 : Int) < (random.length : Int)) = false := decide_eq_false hi1_a
  have hi3_a : ((random.length : Int) ≤ 40) = True := eq_true (by omega)
  by_cases hz_l : 40 < l.length
  case pos =>
    have hd1_l : decide (40 < l.length) = true := decide_eq_true hz_l
    have hi1_l : (40 : Int) < (l.length : Int) := by omega
    have hd2_l : decide ((40 : Int) < (l.length : Int)) = true := decide_eq_true hi1_l
    have hi3_l : ((l.length : Int) ≤ 40) = False := eq_false (by omega)
    go_enter Tryz.func3, Tryz.ntmps3
    go_wp2_with fail
    rw [HW0.out]
    refine HH.out.mono ?_
    rintro e w1 ⟨rfl, hb1⟩
    have HB1 := Lib.hid hb1
    clear hb1
    go_wp2
    go_ret
    exact ⟨rfl, below_trans HB0.out HB1.out⟩
  case neg =>
  have hd1_l : decide (40 < l.length) = false := decide_eq_false hz_l
  have hi1_l : ¬ (40 : Int) < (l.length : Int) := by omega
  have hd2_l : decide ((40 : Int) < (l.length : Int)) = false := decide_eq_false hi1_l
  have hi3_l : ((l.length : Int) ≤ 40) = True := eq_true (by omega)
  by_cases hz_r : 60 < root.size
  case pos =>
    have hd1_r : decide (60 < root.size) = true := decide_eq_true hz_r
    have hi1_r : (60 : Int) < (root.size : Int) := by omega
    have hd2_r : decide ((60 : Int) < (root.size : Int)) = true := decide_eq_true hi1_r
    have hi3_r : ((root.size : Int) ≤ 60) = False := eq_false (by omega)
    go_enter Tryz.func3, Tryz.ntmps3
    go_wp2_with fail
    rw [HW0.out]
    refine HH.out.mono ?_
    rintro e w1 ⟨rfl, hb1⟩
    have HB1 := Lib.hid hb1
    clear hb1
    go_wp2
    go_ret
    exact ⟨rfl, below_trans HB0.out HB1.out⟩
  case neg =>
  have hd1_r : decide (60 < root.size) = false := decide_eq_false hz_r
  have hi1_r : ¬ (60 : Int) < (root.size : Int) := by omega
  have hd2_r : decide ((60 : Int) < (root.size : Int)) = false := decide_eq_false hi1_r
  have hi3_r : ((root.size : Int) ≤ 60) = True := eq_true (by omega)
  by_cases hz_p : 40 < p.length
  case pos =>
    have hd1_p : decide (40 < p.length) = true := decide_eq_true hz_p
    have hi1_p : (40 : Int) < (p.length : Int) := by omega
    have hd2_p : decide ((40 : Int) < (p.length : Int)) = true := decide_eq_true hi1_p
    have hi3_p : ((p.length : Int) ≤ 40) = False := eq_false (by omega)
    go_enter Tryz.func3, Tryz.ntmps3
    go_wp2_with fail
    rw [HW0.out]
    refine HH.out.mono ?_
    rintro e w1 ⟨rfl, hb1⟩
    have HB1 := Lib.hid hb1
    clear hb1
    go_wp2
    go_ret
    exact ⟨rfl, below_trans HB0.out HB1.out⟩
  case neg =>
  have hd1_p : decide (40 < p.length) = false := decide_eq_false hz_p
  have hi1_p : ¬ (40 : Int) < (p.length : Int) := by omega
  have hd2_p : decide ((40 : Int) < (p.length : Int)) = false := decide_eq_false hi1_p
  have hi3_p : ((p.length : Int) ≤ 40) = True := eq_true (by omega)
  cases vp with
  | false =>
    go_enter Tryz.func3, Tryz.ntmps3
    go_wp2_with fail
    rw [HW0.out]
    refine HH.out.mono ?_
    rintro e w1 ⟨rfl, hb1⟩
    have HB1 := Lib.hid hb1
    clear hb1
    go_wp2_with fail
    refine (HFP.out w1 HB1.out).mono ?_
    rintro e _ ⟨rfl, rfl⟩
    go_wp2
    go_ret
    exact ⟨rfl, below_trans HB0.out HB1.out⟩
  | true =>
  have hsm := few60 HVP.out
  have HS1 : Hid (∀ W, Below w0.heap.size w0 W → _) := Lib.hid (fun W hW => split_all secret need total A c random W (HA.out W hW) hl1)
  have HS2 : Hid (∀ W, Below w0.heap.size w0 W → _) := Lib.hid (fun W hW => rsplit_all secret need total A c random W (HA.out W hW) hl1)
  have hSL := splitL_len secret need total random
  have HJ1 : Hid (∀ W, Below w0.heap.size w0 W → _) := Lib.hid (fun W hW => join_full B d l need W (HL.out W hW) (by omega) hcl)
  have HJ2 : Hid (∀ W, Below w0.heap.size w0 W → _) := Lib.hid (fun W hW => rjoin_all B d l need W (HL.out W hW) (by omega))
  have HR1 : Hid (∀ W, Below w0.heap.size w0 W → _) := Lib.hid (fun W hW => sroot_all B d l W (HL.out W hW) hl2 (HT.out W hW))
  have HR2 : Hid (∀ W, Below w0.heap.size w0 W → _) := Lib.hid (fun W hW => r7root_all B d l W (HL.out W hW) hl2)
  have HC1 : Hid (∀ W, Below w0.heap.size w0 W → _) := Lib.hid (fun W hW => scheck_any root total s C f p W (HP.out W hW) (by omega) hcp hsm (HT.out W hW))
  have HC2 : Hid (∀ W, Below w0.heap.size w0 W → _) := Lib.hid (fun W hW => r7check_any root total s C f p W (HP.out W hW) (by omega) hcp hsm)
  have HSM : Hid (∀ (SL : List (Int × Int)) W (A' B' : Option Addr) (c' d' : Nat), SL.length ≤ 16 → Prs W A' SL → Prs W B' SL → Calls Tryz.prog 13 #[.slice A' SL.length c', .slice B' SL.length d'] W fun e w' => e = .returned (.bool true) ∧ ∃ q, w' = W.drewN q) := Lib.hid (fun SL W A' B' c' d' hq h1 h2 => by
    have := same_any A' B' c' d' SL SL W h1 h2 (by omega) (by omega)
    rw [decide_eq_true rfl] at this
    exact this)
  generalize splitL secret need total random = SL at *
  generalize (if splitOk secret need total random then (0 : Int) else 1) = es at *
  generalize (joinF l need).1 = j1 at *
  generalize (joinF l need).2 = j2 at *
  have hxr : (if rootOk l then rt (l.map shLf) else ByteArray.empty).size ≤ 200 := by
    split
    · exact rt_size _ (shLf_sm l)
    · decide
  generalize (if rootOk l then rt (l.map shLf) else ByteArray.empty) = xr at *
  generalize (if rootOk l then (0 : Int) else 1) = er at *
  generalize shChk root total s p = b at *
  have t1 := beq_true xr
  clear hl1 hl2 hl3 hcl hcp
  go_enter Tryz.func3, Tryz.ntmps3
  go_wp2_with fail
  rw [HW0.out]
  refine HH.out.mono ?_
  rintro e w1 ⟨rfl, hb1⟩
  have HB1 := Lib.hid hb1
  clear hb1
  go_wp2_with fail
  refine (HFP.out w1 HB1.out).mono ?_
  rintro e _ ⟨rfl, rfl⟩
  go_wp2_with fail
  refine (HS1.out w1 HB1.out).mono ?_
  rintro e w2 ⟨v1, rfl, ho1, hb⟩
  have HB2 := Lib.hid (below_trans HB1.out hb)
  obtain ⟨A1, c1, rfl, -, -, hr1⟩ := Rd.of_own ho1
  have HP1 : Hid (∀ W, Below w2.heap.size w2 W → Prs W A1 SL) := Lib.hid (fun W hW => Prs.below hr1 hW)
  clear ho1 hr1
  clear hb
  go_wp2_with fail
  refine (HS2.out w2 HB2.out).mono ?_
  rintro e w3 ⟨v2, rfl, ho2, hb⟩
  have HB3 := Lib.hid (below_trans HB2.out hb)
  obtain ⟨A2, c2, rfl, -, -, hr2⟩ := Rd.of_own ho2
  have HP12 : Hid (∀ W, Below w3.heap.size w3 W → Prs W A1 SL ∧ Prs W A2 SL) := Lib.hid (fun W hW => ⟨HP1.out W (below_trans hb hW), Prs.below hr2 hW⟩)
  have HX3 : Hid (Below w3.heap.size w3 w3) := Lib.hid (Below.refl _ _)
  clear ho2 hr2 HP1
  clear hb
  go_wp2_with fail
  refine (HJ1.out w3 HB3.out).mono ?_
  rintro e w4 ⟨rfl, hb⟩
  have HB4 := Lib.hid (below_trans HB3.out hb)
  have HX4 := Lib.hid (below_trans HX3.out hb)
  clear hb
  go_wp2_with fail
  refine (HJ2.out w4 HB4.out).mono ?_
  rintro e w5 ⟨rfl, hb⟩
  have HB5 := Lib.hid (below_trans HB4.out hb)
  have HX5 := Lib.hid (below_trans HX4.out hb)
  clear hb
  go_wp2_with fail
  refine (HR1.out w5 HB5.out).mono ?_
  rintro e w6 ⟨rfl, hb⟩
  have HB6 := Lib.hid (below_trans HB5.out hb)
  have HX6 := Lib.hid (below_trans HX5.out hb)
  clear hb
  go_wp2_with fail
  refine (HR2.out w6 HB6.out).mono ?_
  rintro e w7 ⟨rfl, hb⟩
  have HB7 := Lib.hid (below_trans HB6.out hb)
  have HX7 := Lib.hid (below_trans HX6.out hb)
  clear hb
  go_wp2_with fail
  refine (HSM.out SL w7 A1 A2 c1 c2 hSL (HP12.out _ HX7.out).1 (HP12.out _ HX7.out).2).mono ?_
  rintro e w8 ⟨rfl, q, hq⟩
  have HB8 : Hid (Below w0.heap.size w0 w8) := Lib.hid (by rw [hq]; exact below_drewN HB7.out q)
  clear hq
  go_wp2_with fail
  refine wp_region_belowC (by kernel_rfl) (by kernel_rfl) (fun WQ HQS HQN => ?_)
  refine HQS.go (fun K hK => ?_)
  go_simp
  apply Exists.intro
  refine ⟨fun W hW => ?_, hK _ ?_⟩
  · (try go_simp)
    exact rfl
  clear hK K
  refine HQS.go (fun K hK => ?_)
  go_simp
  apply Exists.intro
  refine ⟨fun W hW => ?_, hK _ ?_⟩
  · (try go_simp)
    exact rfl
  clear hK K
  refine HQS.go (fun K hK => ?_)
  go_simp
  apply Exists.intro
  refine ⟨fun W hW => ?_, hK _ ?_⟩
  · (try go_simp)
    exact rfl
  clear hK K
  refine HQS.go (fun K hK => ?_)
  go_simp
  apply Exists.intro
  refine ⟨fun W hW => ?_, hK _ ?_⟩
  · (try go_simp)
    exact rfl
  clear hK K
  refine HQS.go (fun K hK => ?_)
  go_simp
  apply Exists.intro
  refine ⟨fun W hW => ?_, hK _ ?_⟩
  · (try go_simp)
    exact rfl
  clear hK K
  refine HQS.go (fun K hK => ?_)
  go_simp
  apply Exists.intro
  refine ⟨fun W hW => ?_, hK _ ?_⟩
  · (try go_simp)
    exact rfl
  clear hK K
  refine HQS.go (fun K hK => ?_)
  go_simp
  apply Exists.intro
  refine ⟨fun W hW => ?_, hK _ ?_⟩
  · (try go_simp)
    exact rfl
  clear hK K
  refine HQS.go (fun K hK => ?_)
  go_simp
  apply Exists.intro
  refine ⟨fun W hW => ?_, hK _ ?_⟩
  · obtain ⟨q1, q2⟩ := HK.out W (below_trans HB8.out hW)
    have ql := lt_of_cell q1
    go_simp
    exact rfl
  clear hK K
  refine HQS.go (fun K hK => ?_)
  go_simp
  apply Exists.intro
  refine ⟨fun W hW => ?_, hK _ ?_⟩
  · (try go_simp)
    exact rfl
  clear hK K
  refine HQS.go (fun K hK => ?_)
  go_simp
  apply Exists.intro
  refine ⟨fun W hW => ?_, hK _ ?_⟩
  · exact (HC1.out W (below_trans HB8.out hW)).mono fun _ _ ⟨he, hb⟩ => ⟨he, below_trans hW hb⟩
  clear hK K
  refine HQS.go (fun K hK => ?_)
  go_simp
  apply Exists.intro
  refine ⟨fun W hW => ?_, hK _ ?_⟩
  · (try go_simp)
    exact rfl
  clear hK K
  refine HQS.go (fun K hK => ?_)
  go_simp
  apply Exists.intro
  refine ⟨fun W hW => ?_, hK _ ?_⟩
  · (try go_simp)
    exact rfl
  clear hK K
  refine HQS.go (fun K hK => ?_)
  go_simp
  apply Exists.intro
  refine ⟨fun W hW => ?_, hK _ ?_⟩
  · obtain ⟨q1, q2⟩ := HK.out W (below_trans HB8.out hW)
    have ql := lt_of_cell q1
    go_simp
    exact rfl
  clear hK K
  refine HQS.go (fun K hK => ?_)
  go_simp
  apply Exists.intro
  refine ⟨fun W hW => ?_, hK _ ?_⟩
  · (try go_simp)
    exact rfl
  clear hK K
  refine HQS.go (fun K hK => ?_)
  go_simp
  apply Exists.intro
  refine ⟨fun W hW => ?_, hK _ ?_⟩
  · exact (HC2.out W (below_trans HB8.out hW)).mono fun _ _ ⟨he, hb⟩ => ⟨he, below_trans hW hb⟩
  clear hK K
  refine HQS.go (fun K hK => ?_)
  go_simp
  apply Exists.intro
  refine ⟨fun W hW => ?_, hK _ ?_⟩
  · (try go_simp)
    exact rfl
  clear hK K
  refine HQS.go (fun K hK => ?_)
  go_simp
  apply Exists.intro
  refine ⟨fun W hW => ?_, hK _ ?_⟩
  · (try go_simp)
    exact rfl
  clear hK K
  refine HQS.go (fun K hK => ?_)
  go_simp
  apply Exists.intro
  refine ⟨fun W hW => ?_, hK _ ?_⟩
  · (try go_simp)
    exact rfl
  clear hK K
  refine HQN.go ?_
  intro W hW
  have HB9 := Lib.hid (below_trans HB8.out hW)
  clear hW
  go_wp2
  go_ret
  exact ⟨rfl, below_trans HB0.out HB9.out⟩

  end Go.Proofs.YtbefcipeojahfaaGreatDoor
