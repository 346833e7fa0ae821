/- The law BlindingMatchesReference: a case of the walk. The law BlindingMatchesReference: a case of the walk. The law BlindingMatchesReference: a case of the walk. The law BlindingMatchesReference: a case of the walk. -/
import Derived.Test.YtdlgejofggbifaaGreatDoorChBlindingMatchesReferenceF
namespace Go.Proofs.YtdlgejofggbifaaGreatDoor

section
open Go.RowKit
set_option maxRecDepth 100000 in
set_option maxHeartbeats 64000000 in
theorem mref52_a (A : Option Addr) (c : Nat) (values : List Int) (secret need total : Int) (root : ByteArray) (D : Option Addr) (d : Nat) (steps : List Stp) (w : World) (hT : Tabs w) (hA : Ints w A values) (hvl : values.length ≤ 9223372036854775807) (hD : Stps w D steps) (hsl : steps.length ≤ 9223372036854775807) (hz0 : ¬ 20 < values.length) :
    Calls Tryz.prog 4 #[.slice A values.length c, .int .i64 secret, .int .i64 need, .int .i64 total, .string root, .slice D steps.length d] w fun e w' => e = .returned (.bool true) ∧ Below w.heap.size w w' := by
  have HH := Lib.hid (bhead_any w hT)
  have HT : Hid (∀ W, Below w.heap.size w W → Tabs W) := Lib.hid (fun W hW => hT.below hW)
  have HST : Hid (∀ W, Below w.heap.size w W → Stps W D steps) := Lib.hid (fun W hW => hD.below hW)
  obtain ⟨e1, he1⟩ : ∃ e : Int, (if mvOk values secret 1000000000 then 0 else 1) = e := ⟨_, rfl⟩
  obtain ⟨e2, he2⟩ : ∃ e : Int, (if mvOk values secret 1001000002 then 0 else 1) = e := ⟨_, rfl⟩
  have hl1 := mvL_len values secret 1000000000 1
  have hl2 := mvL_len values secret 1001000002 (-1)
  have HB1 : Hid (∀ W, Below w.heap.size w W → _) := Lib.hid (fun W hW => blind_any A c values secret W (hA.below hW) hvl (hT.below hW))
  have HB2 : Hid (∀ W, Below w.heap.size w W → _) := Lib.hid (fun W hW => rblind_any A c values secret W (hA.below hW) hvl)
  have HB3 : Hid (∀ W, Below w.heap.size w W → _) := Lib.hid (fun W hW => unblind_any A c values secret W (hA.below hW) hvl (hT.below hW))
  have HB4 : Hid (∀ W, Below w.heap.size w W → _) := Lib.hid (fun W hW => runblind_any A c values secret W (hA.below hW) hvl)
  unfold blL at HB1
  unfold unL at HB3
  rw [he1] at HB1 HB2
  rw [he2] at HB3 HB4
  generalize mvL values secret 1000000000 1 = la at *
  generalize mvL values secret 1001000002 (-1) = lb at *
  have HSA : Hid (∀ (W : World) (A B : Option Addr) (c d : Nat), Ints W A la → Ints W B la → Calls Tryz.prog 21 #[.slice A la.length c, .slice B la.length d] W fun e w' => e = .returned (.bool true) ∧ Below W.heap.size W w') := Lib.hid (fun W A B c d h1 h2 => by
    have := isame_any A B c d la la W h1 h2 (by omega) (by omega)
    rw [decide_eq_true rfl] at this
    exact this)
  have HSB : Hid (∀ (W : World) (A B : Option Addr) (c d : Nat), Ints W A lb → Ints W B lb → Calls Tryz.prog 21 #[.slice A lb.length c, .slice B lb.length d] W fun e w' => e = .returned (.bool true) ∧ Below W.heap.size W w') := Lib.hid (fun W A B c d h1 h2 => by
    have := isame_any A B c d lb lb W h1 h2 (by omega) (by omega)
    rw [decide_eq_true rfl] at this
    exact this)
  clear hT hA hD he1 he2 hl1 hl2
  have hdv : decide (20 < values.length) = false := decide_eq_false (by omega)
  have hiv : ¬ (20 : Int) < (values.length : Int) := by omega
  have hjv : decide ((20 : Int) < (values.length : Int)) = false := decide_eq_false hiv
  by_cases hz1 : 60 < root.size
  case pos =>
    have hdr : decide (60 < root.size) = true := decide_eq_true (by omega)
    have hir : (60 : Int) < (root.size : Int) := by omega
    have hjr : decide ((60 : Int) < (root.size : Int)) = true := decide_eq_true hir
    go_enter Tryz.func4, Tryz.ntmps4
    go_wp2_with fail
    refine (HH.out).mono ?_
    rintro e w1 ⟨rfl, hb⟩
    have HW1 := Lib.hid hb
    clear hb
    go_wp2
    go_ret
    exact ⟨rfl, HW1.out⟩
  case neg =>
  have hdr : decide (60 < root.size) = false := decide_eq_false (by omega)
  have hir : ¬ (60 : Int) < (root.size : Int) := by omega
  have hjr : decide ((60 : Int) < (root.size : Int)) = false := decide_eq_false hir
  by_cases hz2 : 12 < steps.length
  case pos =>
    have hds : decide (12 < steps.length) = true := decide_eq_true (by omega)
    have his : (12 : Int) < (steps.length : Int) := by omega
    have hjs : decide ((12 : Int) < (steps.length : Int)) = true := decide_eq_true his
    go_enter Tryz.func4, Tryz.ntmps4
    go_wp2_with fail
    refine (HH.out).mono ?_
    rintro e w1 ⟨rfl, hb⟩
    have HW1 := Lib.hid hb
    clear hb
    go_wp2
    go_ret
    exact ⟨rfl, HW1.out⟩
  case neg =>
  have hds : decide (12 < steps.length) = false := decide_eq_false (by omega)
  have his : ¬ (12 : Int) < (steps.length : Int) := by omega
  have hjs : decide ((12 : Int) < (steps.length : Int)) = false := decide_eq_false his
  obtain ⟨nk, hnk⟩ : ∃ b, newOk need total root = b := ⟨_, rfl⟩
  cases nk with
  | false =>
    have HN1 : Hid (∀ W : World, _) := Lib.hid (fun W => vnew_bad need total root W (by omega) hnk)
    have HN2 : Hid (∀ W : World, _) := Lib.hid (fun W => rnew_bad need total root W (by omega) hnk)
    clear hnk
    go_enter Tryz.func4, Tryz.ntmps4
    go_wp2_with fail
    refine (HH.out).mono ?_
    rintro e w1 ⟨rfl, hb⟩
    have HW1 := Lib.hid hb
    clear hb
    go_wp2_with fail
    refine (HB1.out w1 HW1.out).mono ?_
    rintro e w2 ⟨va, rfl, ho, hb⟩
    obtain ⟨Aa, ca, rfl, -, -, hr⟩ := Rd.of_own ho
    have HIa : Hid (∀ W, Below w2.heap.size w2 W → Ints W Aa la) := Lib.hid (fun W hW => Ints.below (show Ints w2 Aa la from hr) hW)
    have HW2 := Lib.hid (below_trans HW1.out hb)
    clear ho hb hr
    go_wp2_with fail
    refine (HB2.out w2 HW2.out).mono ?_
    rintro e w3 ⟨vb, rfl, ho, hb⟩
    obtain ⟨Ab, cb, rfl, -, -, hr⟩ := Rd.of_own ho
    have HIb : Hid (∀ W, Below w3.heap.size w3 W → Ints W Ab la) := Lib.hid (fun W hW => Ints.below (show Ints w3 Ab la from hr) hW)
    have HIa : Hid (∀ W, Below w3.heap.size w3 W → Ints W Aa la) := Lib.hid (fun W hW => HIa.out W (below_trans hb hW))
    have HW3 := Lib.hid (below_trans HW2.out hb)
    clear ho hb hr
    go_wp2_with fail
    refine (HB3.out w3 HW3.out).mono ?_
    rintro e w4 ⟨vc, rfl, ho, hb⟩
    obtain ⟨Ac, cc, rfl, -, -, hr⟩ := Rd.of_own ho
    have HIc : Hid (∀ W, Below w4.heap.size w4 W → Ints W Ac lb) := Lib.hid (fun W hW => Ints.below (show Ints w4 Ac lb from hr) hW)
    have HIa : Hid (∀ W, Below w4.heap.size w4 W → Ints W Aa la) := Lib.hid (fun W hW => HIa.out W (below_trans hb hW))
    have HIb : Hid (∀ W, Below w4.heap.size w4 W → Ints W Ab la) := Lib.hid (fun W hW => HIb.out W (below_trans hb hW))
    have HW4 := Lib.hid (below_trans HW3.out hb)
    clear ho hb hr
    go_wp2_with fail
    refine (HB4.out w4 HW4.out).mono ?_
    rintro e w5 ⟨vd, rfl, ho, hb⟩
    obtain ⟨Ad, cd, rfl, -, -, hr⟩ := Rd.of_own ho
    have HId : Hid (∀ W, Below w5.heap.size w5 W → Ints W Ad lb) := Lib.hid (fun W hW => Ints.below (show Ints w5 Ad lb from hr) hW)
    have HIa : Hid (∀ W, Below w5.heap.size w5 W → Ints W Aa la) := Lib.hid (fun W hW => HIa.out W (below_trans hb hW))
    have HIb : Hid (∀ W, Below w5.heap.size w5 W → Ints W Ab la) := Lib.hid (fun W hW => HIb.out W (below_trans hb hW))
    have HIc : Hid (∀ W, Below w5.heap.size w5 W → Ints W Ac lb) := Lib.hid (fun W hW => HIc.out W (below_trans hb hW))
    have HW5 := Lib.hid (below_trans HW4.out hb)
    clear ho hb hr
    go_wp2_with fail
    refine (HN1.out w5).mono ?_
    rintro e w6 ⟨rfl, hb⟩
    have HX6 := Lib.hid hb
    clear hb
    go_wp2_with fail
    refine (HN2.out w6).mono ?_
    rintro e w7 ⟨rfl, hb⟩
    have HX7 := Lib.hid (below_trans HX6.out hb)
    clear hb
    go_wp2_with fail
    refine (HSA.out w7 Aa Ab ca cb (HIa.out _ HX7.out) (HIb.out _ HX7.out)).mono ?_
    rintro e w8 ⟨rfl, hb⟩
    have HX8 := Lib.hid (below_trans HX7.out hb)
    have HX87 := Lib.hid hb
    clear hb
    go_wp2_with fail
    refine (HSB.out w8 Ac Ad cc cd (HIc.out _ HX8.out) (HId.out _ HX8.out)).mono ?_
    rintro e w9 ⟨rfl, hb⟩
    have HX9 := Lib.hid (below_trans HX8.out hb)
    have HW9 := Lib.hid (below_trans HW5.out HX9.out)
    have HX97 := Lib.hid (below_trans HX87.out hb)
    clear hb
    clear HN1 HN2
    go_wp2_with fail
    go_loopw [26] (fun u26 wr => ∃ k : Nat, k ≤ steps.length ∧ u26 = .int .i64 k ∧ Below w.heap.size w wr) (fun u26 _ => steps.length - (intOf u26).toNat)
    case atStart => exact ⟨0, Nat.zero_le _, rfl, HW9.out⟩
    case round =>
    obtain ⟨k, hk, rfl, hb⟩ := hrel
    have HWR := Lib.hid hb
    clear hb
    by_cases hlt : k < steps.length
    case neg =>
      obtain rfl : k = steps.length := by omega
      go_wp2
      go_ret
      exact ⟨rfl, HWR.out⟩
    case pos =>
      obtain ⟨a, ha⟩ := get_some steps k hlt
      have HPP : Hid (∀ W, Below w.heap.size w W → Strs W a.A a.p) := Lib.hid (fun W hW => by
        obtain ⟨b', o', e, hc'⟩ := HST.out W hW (by omega)
        exact (hc' k a ha).2.2.2.2.1)
      obtain ⟨bS, oS, rfl, hc⟩ := HST.out wr HWR.out (by omega)
      obtain ⟨q0, q1, q2, q3, -, qf⟩ := hc k a ha
      have ql := lt_of_cell q0
      have hki : (k : Int) < (steps.length : Int) := by omega
      have QF := Lib.hid qf
      have hal := qf.2.2.2
      clear hc ha qf
      obtain ⟨ao, hao⟩ : ∃ b, a.o = b := ⟨_, rfl⟩
      rw [hao] at q0
      clear hao
      have HF := Lib.hid (fun W (hW : Below w.heap.size w W) => few_any a.A a.c a.p 60 W (HPP.out W hW) hal)
      obtain ⟨vp, hvp⟩ : ∃ v, fewB a.p 60 = v := ⟨_, rfl⟩
      rw [hvp] at HF
      have HW10 : Hid (Below w.heap.size w (wr.alloc (.cells #[.bool ao, .int .i64 a.s.1, .int .i64 a.s.2, .slice a.A a.p.length a.c] 48))) := Lib.hid (below_alloc HWR.out _)
      by_cases hz3 : 20 < a.p.length
      case pos =>
        have hdp : decide (20 < a.p.length) = true := decide_eq_true (by omega)
        have hip : (20 : Int) < (a.p.length : Int) := by omega
        have hjp : decide ((20 : Int) < (a.p.length : Int)) = true := decide_eq_true hip
        clear hvp
        go_wp2
        go_ret
        exact ⟨rfl, HW10.out⟩
      case neg =>
      have hdp : decide (20 < a.p.length) = false := decide_eq_false (by omega)
      have hip : ¬ (20 : Int) < (a.p.length : Int) := by omega
      have hjp : decide ((20 : Int) < (a.p.length : Int)) = false := decide_eq_false hip
      cases vp with
      | false =>
        clear hvp
        go_wp2_with fail
        refine (HF.out _ HW10.out).mono ?_
        rintro e _ ⟨rfl, rfl⟩
        go_wp2
        go_ret
        exact ⟨rfl, HW10.out⟩
      | true =>
      have HSM := Lib.hid (few60 hvp)
      clear hvp
      cases ao with
      | true =>
        go_wp2_with fail
        refine (HF.out _ HW10.out).mono ?_
        rintro e _ ⟨rfl, rfl⟩
        clear HF q0 q1 q2 q3 ql
        go_wp2_with fail
        refine (vopen_nil _).mono ?_
        rintro e wA ⟨rfl, hb⟩
        have HWA := Lib.hid (below_trans HW10.out hb)
        clear hb
        go_wp2_with fail
        refine (ropen_nil _).mono ?_
        rintro e wB ⟨rfl, hb⟩
        have HWB := Lib.hid (below_trans HWA.out hb)
        clear hb
        go_wp2
        go_roundw
        case rel => exact ⟨k + 1, by omega, by go_num, HWB.out⟩
        case measure => simp [intOf]; omega
      | false =>
      go_wp2_with fail
      refine (HF.out _ HW10.out).mono ?_
      rintro e _ ⟨rfl, rfl⟩
      clear HF q0 q1 q2 q3 ql
      have HS0 : Hid (Blk (World.drew (wr.alloc (.cells #[.bool false, .int .i64 a.s.1, .int .i64 a.s.2, .slice a.A a.p.length a.c] 48))) wr.heap.size 48 #[.bool false, .int .i64 a.s.1, .int .i64 a.s.2, .slice a.A a.p.length a.c]) := Lib.hid (Blk.new wr _ _ _ rfl)
      go_wp2_with fail
      refine wp_region_held_drew (S := fun W => Blk W wr.heap.size 48 #[.bool false, .int .i64 a.s.1, .int .i64 a.s.2, .slice a.A a.p.length a.c]) (by kernel_rfl) (HS0.out) (fun hS0 => ?_)
      refine wpAnyH_take (i := 0) (v := ?_) rfl (by kernel_rfl) (by kernel_rfl) (by kernel_rfl) (fun _ _ _ h => h) (Or.inl ⟨by kernel_rfl, ?hy⟩) hS0 ?rest
      case hy => (intro W hSw; clear hSw; go_simp; with_reducible rfl)
      case rest =>
      refine wpAnyH_take (i := 1) (v := ?_) rfl (by kernel_rfl) (by kernel_rfl) (by kernel_rfl) (fun _ _ _ h => h) (Or.inl ⟨by kernel_rfl, ?hy⟩) hS0 ?rest
      case hy => (intro W hSw; clear hSw; go_simp; with_reducible rfl)
      case rest =>
      refine wpAnyH_take (i := 2) (v := ?_) rfl (by kernel_rfl) (by kernel_rfl) (by kernel_rfl) (fun _ _ _ h => h) (Or.inl ⟨by kernel_rfl, ?hy⟩) hS0 ?rest
      case hy => (intro W hSw; have z1 := hSw.of_cell (i := 1) rfl; have z2 := hSw.of_cell (i := 2) rfl; have z3 := hSw.of_cell (i := 3) rfl; have zl := hSw.lt; clear hSw; go_simp; with_reducible rfl)
      case rest =>
      refine wpAnyH_take (i := 3) (v := ?_) rfl (by kernel_rfl) (by kernel_rfl) (by kernel_rfl) (fun _ _ _ h => h) (Or.inl ⟨by kernel_rfl, ?hy⟩) hS0 ?rest
      case hy => (intro W hSw; clear hSw; go_simp; with_reducible rfl)
      case rest =>
      refine wpAnyH_take (i := 4) (v := ?_) rfl (by kernel_rfl) (by kernel_rfl) (by kernel_rfl) (fun _ _ _ h => h) (Or.inl ⟨by kernel_rfl, ?hy⟩) hS0 ?rest
      case hy => (intro W hSw; have z1 := hSw.of_cell (i := 1) rfl; have z2 := hSw.of_cell (i := 2) rfl; have z3 := hSw.of_cell (i := 3) rfl; have zl := hSw.lt; clear hSw; go_simp; with_reducible rfl)
      case rest =>
      refine wpAnyH_take (i := 6) (v := ?_) rfl (by kernel_rfl) (by kernel_rfl) (by kernel_rfl) (fun _ _ _ h => h) (Or.inl ⟨by kernel_rfl, ?hy⟩) hS0 ?rest
      case hy => (intro W hSw; clear hSw; go_simp; with_reducible rfl)
      case rest =>
      try go_simp
      refine wpAnyH_take (i := 7) (v := ?_) rfl (by kernel_rfl) (by kernel_rfl) (by kernel_rfl) (fun _ _ _ h => h) (Or.inl ⟨by kernel_rfl, ?hy⟩) hS0 ?rest
      case hy => (intro W hSw; clear hSw; go_simp; with_reducible rfl)
      case rest =>
      refine wpAnyH_take (i := 8) (v := ?_) rfl (by kernel_rfl) (by kernel_rfl) (by kernel_rfl) (fun _ _ _ h => h) (Or.inl ⟨by kernel_rfl, ?hy⟩) hS0 ?rest
      case hy => (intro W hSw; have z1 := hSw.of_cell (i := 1) rfl; have z2 := hSw.of_cell (i := 2) rfl; have z3 := hSw.of_cell (i := 3) rfl; have zl := hSw.lt; clear hSw; go_simp; with_reducible rfl)
      case rest =>
      refine wpAnyH_take (i := 9) (v := ?_) rfl (by kernel_rfl) (by kernel_rfl) (by kernel_rfl) (fun _ _ _ h => h) (Or.inl ⟨by kernel_rfl, ?hy⟩) hS0 ?rest
      case hy => (intro W hSw; clear hSw; go_simp; with_reducible rfl)
      case rest =>
      refine wpAnyH_take (i := 10) (v := ?_) rfl (by kernel_rfl) (by kernel_rfl) (by kernel_rfl) (fun _ _ _ h => h) (Or.inl ⟨by kernel_rfl, ?hy⟩) hS0 ?rest
      case hy => (intro W hSw; have z1 := hSw.of_cell (i := 1) rfl; have z2 := hSw.of_cell (i := 2) rfl; have z3 := hSw.of_cell (i := 3) rfl; have zl := hSw.lt; clear hSw; go_simp; with_reducible rfl)
      case rest =>
      refine wpAnyH_ready (rs := [5]) (by kernel_rfl) (by simp) ?_
      refine AllReadyH.cons rfl (fun K hK => ?_) (AllReadyH.nil)
      go_simp
      refine (voffer_nil a.s _ _).mono ?_
      rintro e wA ⟨rfl, hb⟩
      have HWA := Lib.hid (below_trans HW10.out.drew hb)
      go_simp
      refine hK.out _ _ ((hb.block _ hS0.lt).trans hS0) (fun hS1 => ?_)
      clear hK K hb hS0
      refine wpAnyH_ready (rs := [11]) (by kernel_rfl) (by simp) ?_
      refine AllReadyH.cons rfl (fun K hK => ?_) (AllReadyH.nil)
      go_simp
      refine (roffer_nil a.s _ _).mono ?_
      rintro e wB ⟨rfl, hb⟩
      have HWB := Lib.hid (below_trans HWA.out hb)
      go_simp
      refine hK.out _ _ ((hb.block _ hS1.lt).trans hS1) (fun hS2 => ?_)
      clear hK K hb hS1
      refine wpAnyH_take (i := 12) (v := ?_) rfl (by kernel_rfl) (by kernel_rfl) (by kernel_rfl) (fun _ _ _ h => h) (Or.inl ⟨by kernel_rfl, ?hy⟩) hS2 ?rest
      case hy => (intro W hSw; clear hSw; go_simp; with_reducible rfl)
      case rest =>
      refine wpAnyH_done (by kernel_rfl) ?_ _
      clear hS2
      go_wp2
      go_roundw
      case rel => exact ⟨k + 1, by omega, by go_num, HWB.out⟩
      case measure => simp [intOf]; omega
  | true =>
  have hnk' := hnk
  simp only [newOk, Bool.and_eq_true, decide_eq_true_eq] at hnk'
  obtain ⟨⟨b1, b2, b3, b4⟩, b5⟩ := hnk'
  obtain ⟨n, rfl⟩ : ∃ n : Nat, need = n := ⟨need.toNat, by omega⟩
  obtain ⟨m, rfl⟩ : ∃ m : Nat, total = m := ⟨total.toNat, by omega⟩
  have HN1 : Hid (∀ W : World, _) := Lib.hid (fun W => vnew_ok n m root W (by omega) (by omega) (by omega) (by omega) b5)
  have HN2 : Hid (∀ W : World, _) := Lib.hid (fun W => rnew_ok n m root W (by omega) (by omega) (by omega) (by omega) b5)
  have hm16 : m ≤ 16 := by omega
  clear hnk b1 b2 b3 b4 b5
  go_enter Tryz.func4, Tryz.ntmps4
  go_wp2_with fail
  refine (HH.out).mono ?_
  rintro e w1 ⟨rfl, hb⟩
  have HW1 := Lib.hid hb
  clear hb
  go_wp2_with fail
  refine (HB1.out w1 HW1.out).mono ?_
  rintro e w2 ⟨va, rfl, ho, hb⟩
  obtain ⟨Aa, ca, rfl, -, -, hr⟩ := Rd.of_own ho
  have HIa : Hid (∀ W, Below w2.heap.size w2 W → Ints W Aa la) := Lib.hid (fun W hW => Ints.below (show Ints w2 Aa la from hr) hW)
  have HW2 := Lib.hid (below_trans HW1.out hb)
  clear ho hb hr
  go_wp2_with fail
  refine (HB2.out w2 HW2.out).mono ?_
  rintro e w3 ⟨vb, rfl, ho, hb⟩
  obtain ⟨Ab, cb, rfl, -, -, hr⟩ := Rd.of_own ho
  have HIb : Hid (∀ W, Below w3.heap.size w3 W → Ints W Ab la) := Lib.hid (fun W hW => Ints.below (show Ints w3 Ab la from hr) hW)
  have HIa : Hid (∀ W, Below w3.heap.size w3 W → Ints W Aa la) := Lib.hid (fun W hW => HIa.out W (below_trans hb hW))
  have HW3 := Lib.hid (below_trans HW2.out hb)
  clear ho hb hr
  go_wp2_with fail
  refine (HB3.out w3 HW3.out).mono ?_
  rintro e w4 ⟨vc, rfl, ho, hb⟩
  obtain ⟨Ac, cc, rfl, -, -, hr⟩ := Rd.of_own ho
  have HIc : Hid (∀ W, Below w4.heap.size w4 W → Ints W Ac lb) := Lib.hid (fun W hW => Ints.below (show Ints w4 Ac lb from hr) hW)
  have HIa : Hid (∀ W, Below w4.heap.size w4 W → Ints W Aa la) := Lib.hid (fun W hW => HIa.out W (below_trans hb hW))
  have HIb : Hid (∀ W, Below w4.heap.size w4 W → Ints W Ab la) := Lib.hid (fun W hW => HIb.out W (below_trans hb hW))
  have HW4 := Lib.hid (below_trans HW3.out hb)
  clear ho hb hr
  go_wp2_with fail
  refine (HB4.out w4 HW4.out).mono ?_
  rintro e w5 ⟨vd, rfl, ho, hb⟩
  obtain ⟨Ad, cd, rfl, -, -, hr⟩ := Rd.of_own ho
  have HId : Hid (∀ W, Below w5.heap.size w5 W → Ints W Ad lb) := Lib.hid (fun W hW => Ints.below (show Ints w5 Ad lb from hr) hW)
  have HIa : Hid (∀ W, Below w5.heap.size w5 W → Ints W Aa la) := Lib.hid (fun W hW => HIa.out W (below_trans hb hW))
  have HIb : Hid (∀ W, Below w5.heap.size w5 W → Ints W Ab la) := Lib.hid (fun W hW => HIb.out W (below_trans hb hW))
  have HIc : Hid (∀ W, Below w5.heap.size w5 W → Ints W Ac lb) := Lib.hid (fun W hW => HIc.out W (below_trans hb hW))
  have HW5 := Lib.hid (below_trans HW4.out hb)
  clear ho hb hr
  go_wp2_with fail
  refine (HN1.out w5).mono ?_
  rintro e w6 ⟨g, Bm, rfl, hV, hg, hB, hb⟩
  have HV6 := Lib.hid hV
  have HGB : Hid (∀ k, k ∈ [g, Bm] → w.heap.size ≤ k) := Lib.hid (by have := HW5.out.size; intro k hk; simp only [List.mem_cons, List.not_mem_nil, or_false] at hk; rcases hk with rfl | rfl <;> omega)
  have HX6 := Lib.hid hb
  clear hV hg hB hb
  go_wp2_with fail
  refine (HN2.out w6).mono ?_
  rintro e w7 ⟨gr, rfl, hR, hb⟩
  have HR7 := Lib.hid hR
  have HX7 := Lib.hid (below_trans HX6.out hb)
  have HX76 := Lib.hid hb
  clear hR hb
  go_wp2_with fail
  refine (HSA.out w7 Aa Ab ca cb (HIa.out _ HX7.out) (HIb.out _ HX7.out)).mono ?_
  rintro e w8 ⟨rfl, hb⟩
  have HX8 := Lib.hid (below_trans HX7.out hb)
  have HX87 := Lib.hid hb
  clear hb
  go_wp2_with fail
  refine (HSB.out w8 Ac Ad cc cd (HIc.out _ HX8.out) (HId.out _ HX8.out)).mono ?_
  rintro e w9 ⟨rfl, hb⟩
  have HX9 := Lib.hid (below_trans HX8.out hb)
  have HW9 := Lib.hid (below_trans HW5.out HX9.out)
  have HX97 := Lib.hid (below_trans HX87.out hb)
  clear hb
  have HV9 := Lib.hid (HV6.out.below (below_trans HX76.out HX97.out))
  have HR9 := Lib.hid (HR7.out.below HX97.out)
  have HLT : Hid (g < w6.heap.size ∧ Bm < w6.heap.size ∧ w.heap.size ≤ w6.heap.size) := Lib.hid ⟨HV6.out.lt.1, HV6.out.lt.2, by have := HW5.out.size; have := HX6.out.size; omega⟩
  clear HV6 HR7 HN1 HN2
  generalize w6.heap.size = base at *
  go_wp2_with fail
  go_loopw [26] (fun u26 wr => ∃ (k : Nat) (S : List (Int × Int)) (opn : Bool), k ≤ steps.length ∧ u26 = .int .i64 k ∧ Below w.heap.size w wr ∧ PV wr g Bm n m root S opn ∧ RV wr base gr n m root S opn ∧ KY S m ∧ S.length ≤ k) (fun u26 _ => steps.length - (intOf u26).toNat)
  case atStart => exact ⟨0, [], false, Nat.zero_le _, rfl, HW9.out, HV9.out, HR9.out, ⟨by simp, fun s hs => by cases hs⟩, by simp⟩
  case round =>
  obtain ⟨k, S, opn, hk, rfl, hb, hV, hR, hKY, hSk⟩ := hrel
  have HWR := Lib.hid hb
  have HVR := Lib.hid hV
  have HRR := Lib.hid hR
  have HKY := Lib.hid hKY
  clear hb hV hR hKY
  by_cases hlt : k < steps.length
  case neg =>
    obtain rfl : k = steps.length := by omega
    go_wp2
    go_ret
    exact ⟨rfl, HWR.out⟩
  case pos =>
      obtain ⟨a, ha⟩ := get_some steps k hlt
      have HPP : Hid (∀ W, Below w.heap.size w W → Strs W a.A a.p) := Lib.hid (fun W hW => by
        obtain ⟨b', o', e, hc'⟩ := HST.out W hW (by omega)
        exact (hc' k a ha).2.2.2.2.1)
      obtain ⟨bS, oS, rfl, hc⟩ := HST.out wr HWR.out (by omega)
      obtain ⟨q0, q1, q2, q3, -, qf⟩ := hc k a ha
      have ql := lt_of_cell q0
      have hki : (k : Int) < (steps.length : Int) := by omega
      have QF := Lib.hid qf
      have hal := qf.2.2.2
      clear hc ha qf
      obtain ⟨ao, hao⟩ : ∃ b, a.o = b := ⟨_, rfl⟩
      rw [hao] at q0
      clear hao
      have HF := Lib.hid (fun W (hW : Below w.heap.size w W) => few_any a.A a.c a.p 60 W (HPP.out W hW) hal)
      obtain ⟨vp, hvp⟩ : ∃ v, fewB a.p 60 = v := ⟨_, rfl⟩
      rw [hvp] at HF
      have HW10 : Hid (Below w.heap.size w (wr.alloc (.cells #[.bool ao, .int .i64 a.s.1, .int .i64 a.s.2, .slice a.A a.p.length a.c] 48))) := Lib.hid (below_alloc HWR.out _)
      by_cases hz3 : 20 < a.p.length
      case pos =>
        have hdp : decide (20 < a.p.length) = true := decide_eq_true (by omega)
        have hip : (20 : Int) < (a.p.length : Int) := by omega
        have hjp : decide ((20 : Int) < (a.p.length : Int)) = true := decide_eq_true hip
        clear hvp
        go_wp2
        go_ret
        exact ⟨rfl, HW10.out⟩
      case neg =>
      have hdp : decide (20 < a.p.length) = false := decide_eq_false (by omega)
      have hip : ¬ (20 : Int) < (a.p.length : Int) := by omega
      have hjp : decide ((20 : Int) < (a.p.length : Int)) = false := decide_eq_false hip
      cases vp with
      | false =>
        clear hvp
        go_wp2_with fail
        refine (HF.out _ HW10.out).mono ?_
        rintro e _ ⟨rfl, rfl⟩
        go_wp2
        go_ret
        exact ⟨rfl, HW10.out⟩
      | true =>
      have HSM := Lib.hid (few60 hvp)
      clear hvp
      cases ao with
      | true =>
        go_wp2_with fail
        refine (HF.out _ HW10.out).mono ?_
        rintro e _ ⟨rfl, rfl⟩
        clear HF q0 q1 q2 q3 ql
        have hVO := vopen_any g Bm n m root S opn _ (HVR.out.below (below_alloc (Below.refl _ _) (.cells #[.bool true, .int .i64 a.s.1, .int .i64 a.s.2, .slice a.A a.p.length a.c] 48))) hm16
        have hRO : ∀ W, RV W base gr n m root S opn → _ := fun W hW => ropen_any base gr n m root S opn W hW (by omega) (joinF_perm (ord_perm HKY.out.1 HKY.out.2) n)
        obtain ⟨⟨o1, o2⟩, hoo⟩ : ∃ oo, opnR n m S opn = oo := ⟨_, rfl⟩
        rw [hoo] at hVO hRO
        have HVO := Lib.hid hVO
        have HRO := Lib.hid hRO
        simp only [] at HVO HRO
        clear hVO hRO hoo
        go_wp2_with fail
        refine (HVO.out).mono ?_
        rintro e wA ⟨rfl, hV, hc⟩
        have HVA := Lib.hid hV
        have HWA := Lib.hid (below_chg HW10.out hc HGB.out)
        have HRA := Lib.hid ((HRR.out.below (below_alloc (Below.refl _ _) _)).chg hc (fun k hk => by have := HLT.out; simp only [List.mem_cons, List.not_mem_nil, or_false] at hk; rcases hk with rfl | rfl <;> omega))
        clear hV hc
        go_wp2_with fail
        refine (HRO.out wA HRA.out).mono ?_
        rintro e wB ⟨rfl, hR, hb, -⟩
        have HRB := Lib.hid hR
        have HVB := Lib.hid (HVA.out.base hb HLT.out.1 HLT.out.2.1)
        have HWB := Lib.hid (HWA.out.trans (hb.mono HLT.out.2.2))
        clear hR hb
        go_wp2
        go_roundw
        case rel => exact ⟨k + 1, S, _, by omega, by go_num, HWB.out, HVB.out, HRB.out, HKY.out, by omega⟩
        case measure => simp [intOf]; omega
      | false =>
      go_wp2_with fail
      refine (HF.out _ HW10.out).mono ?_
      rintro e _ ⟨rfl, rfl⟩
      clear HF q0 q1 q2 q3 ql
      have HS0 : Hid (Blk (World.drew (wr.alloc (.cells #[.bool false, .int .i64 a.s.1, .int .i64 a.s.2, .slice a.A a.p.length a.c] 48))) wr.heap.size 48 #[.bool false, .int .i64 a.s.1, .int .i64 a.s.2, .slice a.A a.p.length a.c]) := Lib.hid (Blk.new wr _ _ _ rfl)
      obtain ⟨oe, hoe⟩ : ∃ oe, offE root m S opn a.s a.p = oe := ⟨_, rfl⟩
      obtain ⟨S', hS'⟩ : ∃ S', offS root m S opn a.s a.p = S' := ⟨_, rfl⟩
      have HKY' := HKY.out.off root opn a.s a.p
      rw [hS'] at HKY'
      have HK2 := Lib.hid HKY'
      have HVO : Hid (∀ W, PV W g Bm n m root S opn → Below w.heap.size w W → _) := Lib.hid (fun W hV hW => voffer_any g Bm n m root S opn a.s a.A a.c a.p W hV (by omega) (HPP.out W hW) (by omega) QF.out.2.2.1 HSM.out (HT.out W hW))
      have HRO : Hid (∀ W, RV W base gr n m root S opn → Below w.heap.size w W → _) := Lib.hid (fun W hR hW => roffer_any base gr n m root S opn a.s a.A a.c a.p W hR (by omega) (HPP.out W hW) (by omega) QF.out.2.2.1 HSM.out)
      rw [hoe, hS'] at HVO HRO
      clear hoe hS' HKY'
      go_wp2_with fail
      refine wp_region_held_drew (S := fun W => Blk W wr.heap.size 48 #[.bool false, .int .i64 a.s.1, .int .i64 a.s.2, .slice a.A a.p.length a.c]) (by kernel_rfl) (HS0.out) (fun hS0 => ?_)
      refine wpAnyH_take (i := 0) (v := ?_) rfl (by kernel_rfl) (by kernel_rfl) (by kernel_rfl) (fun _ _ _ h => h) (Or.inl ⟨by kernel_rfl, ?hy⟩) hS0 ?rest
      case hy => (intro W hSw; clear hSw; go_simp; with_reducible rfl)
      case rest =>
      refine wpAnyH_take (i := 1) (v := ?_) rfl (by kernel_rfl) (by kernel_rfl) (by kernel_rfl) (fun _ _ _ h => h) (Or.inl ⟨by kernel_rfl, ?hy⟩) hS0 ?rest
      case hy => (intro W hSw; clear hSw; go_simp; with_reducible rfl)
      case rest =>
      refine wpAnyH_take (i := 2) (v := ?_) rfl (by kernel_rfl) (by kernel_rfl) (by kernel_rfl) (fun _ _ _ h => h) (Or.inl ⟨by kernel_rfl, ?hy⟩) hS0 ?rest
      case hy => (intro W hSw; have z1 := hSw.of_cell (i := 1) rfl; have z2 := hSw.of_cell (i := 2) rfl; have z3 := hSw.of_cell (i := 3) rfl; have zl := hSw.lt; clear hSw; go_simp; with_reducible rfl)
      case rest =>
      refine wpAnyH_take (i := 3) (v := ?_) rfl (by kernel_rfl) (by kernel_rfl) (by kernel_rfl) (fun _ _ _ h => h) (Or.inl ⟨by kernel_rfl, ?hy⟩) hS0 ?rest
      case hy => (intro W hSw; clear hSw; go_simp; with_reducible rfl)
      case rest =>
      refine wpAnyH_take (i := 4) (v := ?_) rfl (by kernel_rfl) (by kernel_rfl) (by kernel_rfl) (fun _ _ _ h => h) (Or.inl ⟨by kernel_rfl, ?hy⟩) hS0 ?rest
      case hy => (intro W hSw; have z1 := hSw.of_cell (i := 1) rfl; have z2 := hSw.of_cell (i := 2) rfl; have z3 := hSw.of_cell (i := 3) rfl; have zl := hSw.lt; clear hSw; go_simp; with_reducible rfl)
      case rest =>
      refine wpAnyH_take (i := 6) (v := ?_) rfl (by kernel_rfl) (by kernel_rfl) (by kernel_rfl) (fun _ _ _ h => h) (Or.inl ⟨by kernel_rfl, ?hy⟩) hS0 ?rest
      case hy => (intro W hSw; clear hSw; go_simp; with_reducible rfl)
      case rest =>
      try go_simp
      refine wpAnyH_take (i := 7) (v := ?_) rfl (by kernel_rfl) (by kernel_rfl) (by kernel_rfl) (fun _ _ _ h => h) (Or.inl ⟨by kernel_rfl, ?hy⟩) hS0 ?rest
      case hy => (intro W hSw; clear hSw; go_simp; with_reducible rfl)
      case rest =>
      refine wpAnyH_take (i := 8) (v := ?_) rfl (by kernel_rfl) (by kernel_rfl) (by kernel_rfl) (fun _ _ _ h => h) (Or.inl ⟨by kernel_rfl, ?hy⟩) hS0 ?rest
      case hy => (intro W hSw; have z1 := hSw.of_cell (i := 1) rfl; have z2 := hSw.of_cell (i := 2) rfl; have z3 := hSw.of_cell (i := 3) rfl; have zl := hSw.lt; clear hSw; go_simp; with_reducible rfl)
      case rest =>
      refine wpAnyH_take (i := 9) (v := ?_) rfl (by kernel_rfl) (by kernel_rfl) (by kernel_rfl) (fun _ _ _ h => h) (Or.inl ⟨by kernel_rfl, ?hy⟩) hS0 ?rest
      case hy => (intro W hSw; clear hSw; go_simp; with_reducible rfl)
      case rest =>
      refine wpAnyH_take (i := 10) (v := ?_) rfl (by kernel_rfl) (by kernel_rfl) (by kernel_rfl) (fun _ _ _ h => h) (Or.inl ⟨by kernel_rfl, ?hy⟩) hS0 ?rest
      case hy => (intro W hSw; have z1 := hSw.of_cell (i := 1) rfl; have z2 := hSw.of_cell (i := 2) rfl; have z3 := hSw.of_cell (i := 3) rfl; have zl := hSw.lt; clear hSw; go_simp; with_reducible rfl)
      case rest =>
      refine wpAnyH_ready (rs := [5]) (by kernel_rfl) (by simp) ?_
      refine AllReadyH.cons rfl (fun K hK => ?_) (AllReadyH.nil)
      go_simp
      refine (HVO.out _ (HVR.out.below (below_alloc (Below.refl _ _) _).drew) HW10.out.drew).mono ?_
      rintro e wA ⟨rfl, hV, hc⟩
      have HVA := Lib.hid hV
      have HWA := Lib.hid (below_chg HW10.out.drew hc HGB.out)
      have HRA := Lib.hid ((HRR.out.below (below_alloc (Below.refl _ _) _).drew).chg hc (fun k hk => by have := HLT.out; simp only [List.mem_cons, List.not_mem_nil, or_false] at hk; rcases hk with rfl | rfl <;> omega))
      go_simp
      refine hK.out _ _ ((hc.block _ hS0.lt (fun hm => by have := HVR.out.lt; simp only [List.mem_cons, List.not_mem_nil, or_false] at hm; omega)).trans hS0) (fun hS1 => ?_)
      clear hK K hV hc hS0
      refine wpAnyH_ready (rs := [11]) (by kernel_rfl) (by simp) ?_
      refine AllReadyH.cons rfl (fun K hK => ?_) (AllReadyH.nil)
      go_simp
      refine (HRO.out _ HRA.out HWA.out).mono ?_
      rintro e wB ⟨rfl, hR, hb, hkp⟩
      have HRB := Lib.hid hR
      have HVB := Lib.hid (HVA.out.base hb HLT.out.1 HLT.out.2.1)
      have HWB := Lib.hid (HWA.out.trans (hb.mono HLT.out.2.2))
      go_simp
      refine hK.out _ _ (hkp _ _ _ hS1 (by decide) (by decide)) (fun hS2 => ?_)
      clear hK K hR hb hkp hS1
      refine wpAnyH_take (i := 12) (v := ?_) rfl (by kernel_rfl) (by kernel_rfl) (by kernel_rfl) (fun _ _ _ h => h) (Or.inl ⟨by kernel_rfl, ?hy⟩) hS2 ?rest
      case hy => (intro W hSw; clear hSw; go_simp; with_reducible rfl)
      case rest =>
      refine wpAnyH_done (by kernel_rfl) ?_ _
      clear hS2
      go_wp2
      go_roundw
      case rel => exact ⟨k + 1, S', opn, by omega, by go_num, HWB.out, HVB.out, HRB.out, HK2.out.1, by have := HK2.out.2; omega⟩
      case measure => simp [intOf]; omega
end

section
open Go.RowKit
set_option maxRecDepth 100000 in
set_option maxHeartbeats 64000000 in
theorem mref52_b (A : Option Addr) (c : Nat) (values : List Int) (secret need total : Int) (root : ByteArray) (D : Option Addr) (d : Nat) (steps : List Stp) (w : World) (hT : Tabs w) (hA : Ints w A values) (hvl : values.length ≤ 9223372036854775807) (hD : Stps w D steps) (hsl : steps.length ≤ 9223372036854775807) (hz0 : 20 < values.length) (hq0 : values.length = 1000) :
    Calls Tryz.prog 4 #[.slice A values.length c, .int .i64 secret, .int .i64 need, .int .i64 total, .string root, .slice D steps.length d] w fun e w' => e = .returned (.bool true) ∧ Below w.heap.size w w' := by
  have HH := Lib.hid (bhead_any w hT)
  have HT : Hid (∀ W, Below w.heap.size w W → Tabs W) := Lib.hid (fun W hW => hT.below hW)
  have HST : Hid (∀ W, Below w.heap.size w W → Stps W D steps) := Lib.hid (fun W hW => hD.below hW)
  obtain ⟨e1, he1⟩ : ∃ e : Int, (if mvOk values secret 1000000000 then 0 else 1) = e := ⟨_, rfl⟩
  obtain ⟨e2, he2⟩ : ∃ e : Int, (if mvOk values secret 1001000002 then 0 else 1) = e := ⟨_, rfl⟩
  have hl1 := mvL_len values secret 1000000000 1
  have hl2 := mvL_len values secret 1001000002 (-1)
  have HB1 : Hid (∀ W, Below w.heap.size w W → _) := Lib.hid (fun W hW => blind_any A c values secret W (hA.below hW) hvl (hT.below hW))
  have HB2 : Hid (∀ W, Below w.heap.size w W → _) := Lib.hid (fun W hW => rblind_any A c values secret W (hA.below hW) hvl)
  have HB3 : Hid (∀ W, Below w.heap.size w W → _) := Lib.hid (fun W hW => unblind_any A c values secret W (hA.below hW) hvl (hT.below hW))
  have HB4 : Hid (∀ W, Below w.heap.size w W → _) := Lib.hid (fun W hW => runblind_any A c values secret W (hA.below hW) hvl)
  unfold blL at HB1
  unfold unL at HB3
  rw [he1] at HB1 HB2
  rw [he2] at HB3 HB4
  generalize mvL values secret 1000000000 1 = la at *
  generalize mvL values secret 1001000002 (-1) = lb at *
  have HSA : Hid (∀ (W : World) (A B : Option Addr) (c d : Nat), Ints W A la → Ints W B la → Calls Tryz.prog 21 #[.slice A la.length c, .slice B la.length d] W fun e w' => e = .returned (.bool true) ∧ Below W.heap.size W w') := Lib.hid (fun W A B c d h1 h2 => by
    have := isame_any A B c d la la W h1 h2 (by omega) (by omega)
    rw [decide_eq_true rfl] at this
    exact this)
  have HSB : Hid (∀ (W : World) (A B : Option Addr) (c d : Nat), Ints W A lb → Ints W B lb → Calls Tryz.prog 21 #[.slice A lb.length c, .slice B lb.length d] W fun e w' => e = .returned (.bool true) ∧ Below W.heap.size W w') := Lib.hid (fun W A B c d h1 h2 => by
    have := isame_any A B c d lb lb W h1 h2 (by omega) (by omega)
    rw [decide_eq_true rfl] at this
    exact this)
  clear hT hA hD he1 he2 hl1 hl2
  have hdv : decide (20 < values.length) = true := decide_eq_true (by omega)
  have hiv : (20 : Int) < (values.length : Int) := by omega
  have hjv : decide ((20 : Int) < (values.length : Int)) = true := decide_eq_true hiv
  have hm1000 : ((values.length : Int) == 1000) = true := by simp; omega
  have hn1000 : ((values.length : Int) != 1000) = false := by simp; omega
  clear hq0
  by_cases hz1 : 60 < root.size
  case pos =>
    have hdr : decide (60 < root.size) = true := decide_eq_true (by omega)
    have hir : (60 : Int) < (root.size : Int) := by omega
    have hjr : decide ((60 : Int) < (root.size : Int)) = true := decide_eq_true hir
    go_enter Tryz.func4, Tryz.ntmps4
    go_wp2_with fail
    refine (HH.out).mono ?_
    rintro e w1 ⟨rfl, hb⟩
    have HW1 := Lib.hid hb
    clear hb
    go_wp2
    go_ret
    exact ⟨rfl, HW1.out⟩
  case neg =>
  have hdr : decide (60 < root.size) = false := decide_eq_false (by omega)
  have hir : ¬ (60 : Int) < (root.size : Int) := by omega
  have hjr : decide ((60 : Int) < (root.size : Int)) = false := decide_eq_false hir
  by_cases hz2 : 12 < steps.length
  case pos =>
    have hds : decide (12 < steps.length) = true := decide_eq_true (by omega)
    have his : (12 : Int) < (steps.length : Int) := by omega
    have hjs : decide ((12 : Int) < (steps.length : Int)) = true := decide_eq_true his
    go_enter Tryz.func4, Tryz.ntmps4
    go_wp2_with fail
    refine (HH.out).mono ?_
    rintro e w1 ⟨rfl, hb⟩
    have HW1 := Lib.hid hb
    clear hb
    go_wp2
    go_ret
    exact ⟨rfl, HW1.out⟩
  case neg =>
  have hds : decide (12 < steps.length) = false := decide_eq_false (by omega)
  have his : ¬ (12 : Int) < (steps.length : Int) := by omega
  have hjs : decide ((12 : Int) < (steps.length : Int)) = false := decide_eq_false his
  obtain ⟨nk, hnk⟩ : ∃ b, newOk need total root = b := ⟨_, rfl⟩
  cases nk with
  | false =>
    have HN1 : Hid (∀ W : World, _) := Lib.hid (fun W => vnew_bad need total root W (by omega) hnk)
    have HN2 : Hid (∀ W : World, _) := Lib.hid (fun W => rnew_bad need total root W (by omega) hnk)
    clear hnk
    go_enter Tryz.func4, Tryz.ntmps4
    go_wp2_with fail
    refine (HH.out).mono ?_
    rintro e w1 ⟨rfl, hb⟩
    have HW1 := Lib.hid hb
    clear hb
    go_wp2_with fail
    refine (HB1.out w1 HW1.out).mono ?_
    rintro e w2 ⟨va, rfl, ho, hb⟩
    obtain ⟨Aa, ca, rfl, -, -, hr⟩ := Rd.of_own ho
    have HIa : Hid (∀ W, Below w2.heap.size w2 W → Ints W Aa la) := Lib.hid (fun W hW => Ints.below (show Ints w2 Aa la from hr) hW)
    have HW2 := Lib.hid (below_trans HW1.out hb)
    clear ho hb hr
    go_wp2_with fail
    refine (HB2.out w2 HW2.out).mono ?_
    rintro e w3 ⟨vb, rfl, ho, hb⟩
    obtain ⟨Ab, cb, rfl, -, -, hr⟩ := Rd.of_own ho
    have HIb : Hid (∀ W, Below w3.heap.size w3 W → Ints W Ab la) := Lib.hid (fun W hW => Ints.below (show Ints w3 Ab la from hr) hW)
    have HIa : Hid (∀ W, Below w3.heap.size w3 W → Ints W Aa la) := Lib.hid (fun W hW => HIa.out W (below_trans hb hW))
    have HW3 := Lib.hid (below_trans HW2.out hb)
    clear ho hb hr
    go_wp2_with fail
    refine (HB3.out w3 HW3.out).mono ?_
    rintro e w4 ⟨vc, rfl, ho, hb⟩
    obtain ⟨Ac, cc, rfl, -, -, hr⟩ := Rd.of_own ho
    have HIc : Hid (∀ W, Below w4.heap.size w4 W → Ints W Ac lb) := Lib.hid (fun W hW => Ints.below (show Ints w4 Ac lb from hr) hW)
    have HIa : Hid (∀ W, Below w4.heap.size w4 W → Ints W Aa la) := Lib.hid (fun W hW => HIa.out W (below_trans hb hW))
    have HIb : Hid (∀ W, Below w4.heap.size w4 W → Ints W Ab la) := Lib.hid (fun W hW => HIb.out W (below_trans hb hW))
    have HW4 := Lib.hid (below_trans HW3.out hb)
    clear ho hb hr
    go_wp2_with fail
    refine (HB4.out w4 HW4.out).mono ?_
    rintro e w5 ⟨vd, rfl, ho, hb⟩
    obtain ⟨Ad, cd, rfl, -, -, hr⟩ := Rd.of_own ho
    have HId : Hid (∀ W, Below w5.heap.size w5 W → Ints W Ad lb) := Lib.hid (fun W hW => Ints.below (show Ints w5 Ad lb from hr) hW)
    have HIa : Hid (∀ W, Below w5.heap.size w5 W → Ints W Aa la) := Lib.hid (fun W hW => HIa.out W (below_trans hb hW))
    have HIb : Hid (∀ W, Below w5.heap.size w5 W → Ints W Ab la) := Lib.hid (fun W hW => HIb.out W (below_trans hb hW))
    have HIc : Hid (∀ W, Below w5.heap.size w5 W → Ints W Ac lb) := Lib.hid (fun W hW => HIc.out W (below_trans hb hW))
    have HW5 := Lib.hid (below_trans HW4.out hb)
    clear ho hb hr
    go_wp2_with fail
    refine (HN1.out w5).mono ?_
    rintro e w6 ⟨rfl, hb⟩
    have HX6 := Lib.hid hb
    clear hb
    go_wp2_with fail
    refine (HN2.out w6).mono ?_
    rintro e w7 ⟨rfl, hb⟩
    have HX7 := Lib.hid (below_trans HX6.out hb)
    clear hb
    go_wp2_with fail
    refine (HSA.out w7 Aa Ab ca cb (HIa.out _ HX7.out) (HIb.out _ HX7.out)).mono ?_
    rintro e w8 ⟨rfl, hb⟩
    have HX8 := Lib.hid (below_trans HX7.out hb)
    have HX87 := Lib.hid hb
    clear hb
    go_wp2_with fail
    refine (HSB.out w8 Ac Ad cc cd (HIc.out _ HX8.out) (HId.out _ HX8.out)).mono ?_
    rintro e w9 ⟨rfl, hb⟩
    have HX9 := Lib.hid (below_trans HX8.out hb)
    have HW9 := Lib.hid (below_trans HW5.out HX9.out)
    have HX97 := Lib.hid (below_trans HX87.out hb)
    clear hb
    clear HN1 HN2
    go_wp2_with fail
    go_loopw [26] (fun u26 wr => ∃ k : Nat, k ≤ steps.length ∧ u26 = .int .i64 k ∧ Below w.heap.size w wr) (fun u26 _ => steps.length - (intOf u26).toNat)
    case atStart => exact ⟨0, Nat.zero_le _, rfl, HW9.out⟩
    case round =>
    obtain ⟨k, hk, rfl, hb⟩ := hrel
    have HWR := Lib.hid hb
    clear hb
    by_cases hlt : k < steps.length
    case neg =>
      obtain rfl : k = steps.length := by omega
      go_wp2
      go_ret
      exact ⟨rfl, HWR.out⟩
    case pos =>
      obtain ⟨a, ha⟩ := get_some steps k hlt
      have HPP : Hid (∀ W, Below w.heap.size w W → Strs W a.A a.p) := Lib.hid (fun W hW => by
        obtain ⟨b', o', e, hc'⟩ := HST.out W hW (by omega)
        exact (hc' k a ha).2.2.2.2.1)
      obtain ⟨bS, oS, rfl, hc⟩ := HST.out wr HWR.out (by omega)
      obtain ⟨q0, q1, q2, q3, -, qf⟩ := hc k a ha
      have ql := lt_of_cell q0
      have hki : (k : Int) < (steps.length : Int) := by omega
      have QF := Lib.hid qf
      have hal := qf.2.2.2
      clear hc ha qf
      obtain ⟨ao, hao⟩ : ∃ b, a.o = b := ⟨_, rfl⟩
      rw [hao] at q0
      clear hao
      have HF := Lib.hid (fun W (hW : Below w.heap.size w W) => few_any a.A a.c a.p 60 W (HPP.out W hW) hal)
      obtain ⟨vp, hvp⟩ : ∃ v, fewB a.p 60 = v := ⟨_, rfl⟩
      rw [hvp] at HF
      have HW10 : Hid (Below w.heap.size w (wr.alloc (.cells #[.bool ao, .int .i64 a.s.1, .int .i64 a.s.2, .slice a.A a.p.length a.c] 48))) := Lib.hid (below_alloc HWR.out _)
      by_cases hz3 : 20 < a.p.length
      case pos =>
        have hdp : decide (20 < a.p.length) = true := decide_eq_true (by omega)
        have hip : (20 : Int) < (a.p.length : Int) := by omega
        have hjp : decide ((20 : Int) < (a.p.length : Int)) = true := decide_eq_true hip
        clear hvp
        go_wp2
        go_ret
        exact ⟨rfl, HW10.out⟩
      case neg =>
      have hdp : decide (20 < a.p.length) = false := decide_eq_false (by omega)
      have hip : ¬ (20 : Int) < (a.p.length : Int) := by omega
      have hjp : decide ((20 : Int) < (a.p.length : Int)) = false := decide_eq_false hip
      cases vp with
      | false =>
        clear hvp
        go_wp2_with fail
        refine (HF.out _ HW10.out).mono ?_
        rintro e _ ⟨rfl, rfl⟩
        go_wp2
        go_ret
        exact ⟨rfl, HW10.out⟩
      | true =>
      have HSM := Lib.hid (few60 hvp)
      clear hvp
      cases ao with
      | true =>
        go_wp2_with fail
        refine (HF.out _ HW10.out).mono ?_
        rintro e _ ⟨rfl, rfl⟩
        clear HF q0 q1 q2 q3 ql
        go_wp2_with fail
        refine (vopen_nil _).mono ?_
        rintro e wA ⟨rfl, hb⟩
        have HWA := Lib.hid (below_trans HW10.out hb)
        clear hb
        go_wp2_with fail
        refine (ropen_nil _).mono ?_
        rintro e wB ⟨rfl, hb⟩
        have HWB := Lib.hid (below_trans HWA.out hb)
        clear hb
        go_wp2
        go_roundw
        case rel => exact ⟨k + 1, by omega, by go_num, HWB.out⟩
        case measure => simp [intOf]; omega
      | false =>
      go_wp2_with fail
      refine (HF.out _ HW10.out).mono ?_
      rintro e _ ⟨rfl, rfl⟩
      clear HF q0 q1 q2 q3 ql
      have HS0 : Hid (Blk (World.drew (wr.alloc (.cells #[.bool false, .int .i64 a.s.1, .int .i64 a.s.2, .slice a.A a.p.length a.c] 48))) wr.heap.size 48 #[.bool false, .int .i64 a.s.1, .int .i64 a.s.2, .slice a.A a.p.length a.c]) := Lib.hid (Blk.new wr _ _ _ rfl)
      go_wp2_with fail
      refine wp_region_held_drew (S := fun W => Blk W wr.heap.size 48 #[.bool false, .int .i64 a.s.1, .int .i64 a.s.2, .slice a.A a.p.length a.c]) (by kernel_rfl) (HS0.out) (fun hS0 => ?_)
      refine wpAnyH_take (i := 0) (v := ?_) rfl (by kernel_rfl) (by kernel_rfl) (by kernel_rfl) (fun _ _ _ h => h) (Or.inl ⟨by kernel_rfl, ?hy⟩) hS0 ?rest
      case hy => (intro W hSw; clear hSw; go_simp; with_reducible rfl)
      case rest =>
      refine wpAnyH_take (i := 1) (v := ?_) rfl (by kernel_rfl) (by kernel_rfl) (by kernel_rfl) (fun _ _ _ h => h) (Or.inl ⟨by kernel_rfl, ?hy⟩) hS0 ?rest
      case hy => (intro W hSw; clear hSw; go_simp; with_reducible rfl)
      case rest =>
      refine wpAnyH_take (i := 2) (v := ?_) rfl (by kernel_rfl) (by kernel_rfl) (by kernel_rfl) (fun _ _ _ h => h) (Or.inl ⟨by kernel_rfl, ?hy⟩) hS0 ?rest
      case hy => (intro W hSw; have z1 := hSw.of_cell (i := 1) rfl; have z2 := hSw.of_cell (i := 2) rfl; have z3 := hSw.of_cell (i := 3) rfl; have zl := hSw.lt; clear hSw; go_simp; with_reducible rfl)
      case rest =>
      refine wpAnyH_take (i := 3) (v := ?_) rfl (by kernel_rfl) (by kernel_rfl) (by kernel_rfl) (fun _ _ _ h => h) (Or.inl ⟨by kernel_rfl, ?hy⟩) hS0 ?rest
      case hy => (intro W hSw; clear hSw; go_simp; with_reducible rfl)
      case rest =>
      refine wpAnyH_take (i := 4) (v := ?_) rfl (by kernel_rfl) (by kernel_rfl) (by kernel_rfl) (fun _ _ _ h => h) (Or.inl ⟨by kernel_rfl, ?hy⟩) hS0 ?rest
      case hy => (intro W hSw; have z1 := hSw.of_cell (i := 1) rfl; have z2 := hSw.of_cell (i := 2) rfl; have z3 := hSw.of_cell (i := 3) rfl; have zl := hSw.lt; clear hSw; go_simp; with_reducible rfl)
      case rest =>
      refine wpAnyH_take (i := 6) (v := ?_) rfl (by kernel_rfl) (by kernel_rfl) (by kernel_rfl) (fun _ _ _ h => h) (Or.inl ⟨by kernel_rfl, ?hy⟩) hS0 ?rest
      case hy => (intro W hSw; clear hSw; go_simp; with_reducible rfl)
      case rest =>
      try go_simp
      refine wpAnyH_take (i := 7) (v := ?_) rfl (by kernel_rfl) (by kernel_rfl) (by kernel_rfl) (fun _ _ _ h => h) (Or.inl ⟨by kernel_rfl, ?hy⟩) hS0 ?rest
      case hy => (intro W hSw; clear hSw; go_simp; with_reducible rfl)
      case rest =>
      refine wpAnyH_take (i := 8) (v := ?_) rfl (by kernel_rfl) (by kernel_rfl) (by kernel_rfl) (fun _ _ _ h => h) (Or.inl ⟨by kernel_rfl, ?hy⟩) hS0 ?rest
      case hy => (intro W hSw; have z1 := hSw.of_cell (i := 1) rfl; have z2 := hSw.of_cell (i := 2) rfl; have z3 := hSw.of_cell (i := 3) rfl; have zl := hSw.lt; clear hSw; go_simp; with_reducible rfl)
      case rest =>
      refine wpAnyH_take (i := 9) (v := ?_) rfl (by kernel_rfl) (by kernel_rfl) (by kernel_rfl) (fun _ _ _ h => h) (Or.inl ⟨by kernel_rfl, ?hy⟩) hS0 ?rest
      case hy => (intro W hSw; clear hSw; go_simp; with_reducible rfl)
      case rest =>
      refine wpAnyH_take (i := 10) (v := ?_) rfl (by kernel_rfl) (by kernel_rfl) (by kernel_rfl) (fun _ _ _ h => h) (Or.inl ⟨by kernel_rfl, ?hy⟩) hS0 ?rest
      case hy => (intro W hSw; have z1 := hSw.of_cell (i := 1) rfl; have z2 := hSw.of_cell (i := 2) rfl; have z3 := hSw.of_cell (i := 3) rfl; have zl := hSw.lt; clear hSw; go_simp; with_reducible rfl)
      case rest =>
      refine wpAnyH_ready (rs := [5]) (by kernel_rfl) (by simp) ?_
      refine AllReadyH.cons rfl (fun K hK => ?_) (AllReadyH.nil)
      go_simp
      refine (voffer_nil a.s _ _).mono ?_
      rintro e wA ⟨rfl, hb⟩
      have HWA := Lib.hid (below_trans HW10.out.drew hb)
      go_simp
      refine hK.out _ _ ((hb.block _ hS0.lt).trans hS0) (fun hS1 => ?_)
      clear hK K hb hS0
      refine wpAnyH_ready (rs := [11]) (by kernel_rfl) (by simp) ?_
      refine AllReadyH.cons rfl (fun K hK => ?_) (AllReadyH.nil)
      go_simp
      refine (roffer_nil a.s _ _).mono ?_
      rintro e wB ⟨rfl, hb⟩
      have HWB := Lib.hid (below_trans HWA.out hb)
      go_simp
      refine hK.out _ _ ((hb.block _ hS1.lt).trans hS1) (fun hS2 => ?_)
      clear hK K hb hS1
      refine wpAnyH_take (i := 12) (v := ?_) rfl (by kernel_rfl) (by kernel_rfl) (by kernel_rfl) (fun _ _ _ h => h) (Or.inl ⟨by kernel_rfl, ?hy⟩) hS2 ?rest
      case hy => (intro W hSw; clear hSw; go_simp; with_reducible rfl)
      case rest =>
      refine wpAnyH_done (by kernel_rfl) ?_ _
      clear hS2
      go_wp2
      go_roundw
      case rel => exact ⟨k + 1, by omega, by go_num, HWB.out⟩
      case measure => simp [intOf]; omega
  | true =>
  have hnk' := hnk
  simp only [newOk, Bool.and_eq_true, decide_eq_true_eq] at hnk'
  obtain ⟨⟨b1, b2, b3, b4⟩, b5⟩ := hnk'
  obtain ⟨n, rfl⟩ : ∃ n : Nat, need = n := ⟨need.toNat, by omega⟩
  obtain ⟨m, rfl⟩ : ∃ m : Nat, total = m := ⟨total.toNat, by omega⟩
  have HN1 : Hid (∀ W : World, _) := Lib.hid (fun W => vnew_ok n m root W (by omega) (by omega) (by omega) (by omega) b5)
  have HN2 : Hid (∀ W : World, _) := Lib.hid (fun W => rnew_ok n m root W (by omega) (by omega) (by omega) (by omega) b5)
  have hm16 : m ≤ 16 := by omega
  clear hnk b1 b2 b3 b4 b5
  go_enter Tryz.func4, Tryz.ntmps4
  go_wp2_with fail
  refine (HH.out).mono ?_
  rintro e w1 ⟨rfl, hb⟩
  have HW1 := Lib.hid hb
  clear hb
  go_wp2_with fail
  refine (HB1.out w1 HW1.out).mono ?_
  rintro e w2 ⟨va, rfl, ho, hb⟩
  obtain ⟨Aa, ca, rfl, -, -, hr⟩ := Rd.of_own ho
  have HIa : Hid (∀ W, Below w2.heap.size w2 W → Ints W Aa la) := Lib.hid (fun W hW => Ints.below (show Ints w2 Aa la from hr) hW)
  have HW2 := Lib.hid (below_trans HW1.out hb)
  clear ho hb hr
  go_wp2_with fail
  refine (HB2.out w2 HW2.out).mono ?_
  rintro e w3 ⟨vb, rfl, ho, hb⟩
  obtain ⟨Ab, cb, rfl, -, -, hr⟩ := Rd.of_own ho
  have HIb : Hid (∀ W, Below w3.heap.size w3 W → Ints W Ab la) := Lib.hid (fun W hW => Ints.below (show Ints w3 Ab la from hr) hW)
  have HIa : Hid (∀ W, Below w3.heap.size w3 W → Ints W Aa la) := Lib.hid (fun W hW => HIa.out W (below_trans hb hW))
  have HW3 := Lib.hid (below_trans HW2.out hb)
  clear ho hb hr
  go_wp2_with fail
  refine (HB3.out w3 HW3.out).mono ?_
  rintro e w4 ⟨vc, rfl, ho, hb⟩
  obtain ⟨Ac, cc, rfl, -, -, hr⟩ := Rd.of_own ho
  have HIc : Hid (∀ W, Below w4.heap.size w4 W → Ints W Ac lb) := Lib.hid (fun W hW => Ints.below (show Ints w4 Ac lb from hr) hW)
  have HIa : Hid (∀ W, Below w4.heap.size w4 W → Ints W Aa la) := Lib.hid (fun W hW => HIa.out W (below_trans hb hW))
  have HIb : Hid (∀ W, Below w4.heap.size w4 W → Ints W Ab la) := Lib.hid (fun W hW => HIb.out W (below_trans hb hW))
  have HW4 := Lib.hid (below_trans HW3.out hb)
  clear ho hb hr
  go_wp2_with fail
  refine (HB4.out w4 HW4.out).mono ?_
  rintro e w5 ⟨vd, rfl, ho, hb⟩
  obtain ⟨Ad, cd, rfl, -, -, hr⟩ := Rd.of_own ho
  have HId : Hid (∀ W, Below w5.heap.size w5 W → Ints W Ad lb) := Lib.hid (fun W hW => Ints.below (show Ints w5 Ad lb from hr) hW)
  have HIa : Hid (∀ W, Below w5.heap.size w5 W → Ints W Aa la) := Lib.hid (fun W hW => HIa.out W (below_trans hb hW))
  have HIb : Hid (∀ W, Below w5.heap.size w5 W → Ints W Ab la) := Lib.hid (fun W hW => HIb.out W (below_trans hb hW))
  have HIc : Hid (∀ W, Below w5.heap.size w5 W → Ints W Ac lb) := Lib.hid (fun W hW => HIc.out W (below_trans hb hW))
  have HW5 := Lib.hid (below_trans HW4.out hb)
  clear ho hb hr
  go_wp2_with fail
  refine (HN1.out w5).mono ?_
  rintro e w6 ⟨g, Bm, rfl, hV, hg, hB, hb⟩
  have HV6 := Lib.hid hV
  have HGB : Hid (∀ k, k ∈ [g, Bm] → w.heap.size ≤ k) := Lib.hid (by have := HW5.out.size; intro k hk; simp only [List.mem_cons, List.not_mem_nil, or_false] at hk; rcases hk with rfl | rfl <;> omega)
  have HX6 := Lib.hid hb
  clear hV hg hB hb
  go_wp2_with fail
  refine (HN2.out w6).mono ?_
  rintro e w7 ⟨gr, rfl, hR, hb⟩
  have HR7 := Lib.hid hR
  have HX7 := Lib.hid (below_trans HX6.out hb)
  have HX76 := Lib.hid hb
  clear hR hb
  go_wp2_with fail
  refine (HSA.out w7 Aa Ab ca cb (HIa.out _ HX7.out) (HIb.out _ HX7.out)).mono ?_
  rintro e w8 ⟨rfl, hb⟩
  have HX8 := Lib.hid (below_trans HX7.out hb)
  have HX87 := Lib.hid hb
  clear hb
  go_wp2_with fail
  refine (HSB.out w8 Ac Ad cc cd (HIc.out _ HX8.out) (HId.out _ HX8.out)).mono ?_
  rintro e w9 ⟨rfl, hb⟩
  have HX9 := Lib.hid (below_trans HX8.out hb)
  have HW9 := Lib.hid (below_trans HW5.out HX9.out)
  have HX97 := Lib.hid (below_trans HX87.out hb)
  clear hb
  have HV9 := Lib.hid (HV6.out.below (below_trans HX76.out HX97.out))
  have HR9 := Lib.hid (HR7.out.below HX97.out)
  have HLT : Hid (g < w6.heap.size ∧ Bm < w6.heap.size ∧ w.heap.size ≤ w6.heap.size) := Lib.hid ⟨HV6.out.lt.1, HV6.out.lt.2, by have := HW5.out.size; have := HX6.out.size; omega⟩
  clear HV6 HR7 HN1 HN2
  generalize w6.heap.size = base at *
  go_wp2_with fail
  go_loopw [26] (fun u26 wr => ∃ (k : Nat) (S : List (Int × Int)) (opn : Bool), k ≤ steps.length ∧ u26 = .int .i64 k ∧ Below w.heap.size w wr ∧ PV wr g Bm n m root S opn ∧ RV wr base gr n m root S opn ∧ KY S m ∧ S.length ≤ k) (fun u26 _ => steps.length - (intOf u26).toNat)
  case atStart => exact ⟨0, [], false, Nat.zero_le _, rfl, HW9.out, HV9.out, HR9.out, ⟨by simp, fun s hs => by cases hs⟩, by simp⟩
  case round =>
  obtain ⟨k, S, opn, hk, rfl, hb, hV, hR, hKY, hSk⟩ := hrel
  have HWR := Lib.hid hb
  have HVR := Lib.hid hV
  have HRR := Lib.hid hR
  have HKY := Lib.hid hKY
  clear hb hV hR hKY
  by_cases hlt : k < steps.length
  case neg =>
    obtain rfl : k = steps.length := by omega
    go_wp2
    go_ret
    exact ⟨rfl, HWR.out⟩
  case pos =>
      obtain ⟨a, ha⟩ := get_some steps k hlt
      have HPP : Hid (∀ W, Below w.heap.size w W → Strs W a.A a.p) := Lib.hid (fun W hW => by
        obtain ⟨b', o', e, hc'⟩ := HST.out W hW (by omega)
        exact (hc' k a ha).2.2.2.2.1)
      obtain ⟨bS, oS, rfl, hc⟩ := HST.out wr HWR.out (by omega)
      obtain ⟨q0, q1, q2, q3, -, qf⟩ := hc k a ha
      have ql := lt_of_cell q0
      have hki : (k : Int) < (steps.length : Int) := by omega
      have QF := Lib.hid qf
      have hal := qf.2.2.2
      clear hc ha qf
      obtain ⟨ao, hao⟩ : ∃ b, a.o = b := ⟨_, rfl⟩
      rw [hao] at q0
      clear hao
      have HF := Lib.hid (fun W (hW : Below w.heap.size w W) => few_any a.A a.c a.p 60 W (HPP.out W hW) hal)
      obtain ⟨vp, hvp⟩ : ∃ v, fewB a.p 60 = v := ⟨_, rfl⟩
      rw [hvp] at HF
      have HW10 : Hid (Below w.heap.size w (wr.alloc (.cells #[.bool ao, .int .i64 a.s.1, .int .i64 a.s.2, .slice a.A a.p.length a.c] 48))) := Lib.hid (below_alloc HWR.out _)
      by_cases hz3 : 20 < a.p.length
      case pos =>
        have hdp : decide (20 < a.p.length) = true := decide_eq_true (by omega)
        have hip : (20 : Int) < (a.p.length : Int) := by omega
        have hjp : decide ((20 : Int) < (a.p.length : Int)) = true := decide_eq_true hip
        clear hvp
        go_wp2
        go_ret
        exact ⟨rfl, HW10.out⟩
      case neg =>
      have hdp : decide (20 < a.p.length) = false := decide_eq_false (by omega)
      have hip : ¬ (20 : Int) < (a.p.length : Int) := by omega
      have hjp : decide ((20 : Int) < (a.p.length : Int)) = false := decide_eq_false hip
      cases vp with
      | false =>
        clear hvp
        go_wp2_with fail
        refine (HF.out _ HW10.out).mono ?_
        rintro e _ ⟨rfl, rfl⟩
        go_wp2
        go_ret
        exact ⟨rfl, HW10.out⟩
      | true =>
      have HSM := Lib.hid (few60 hvp)
      clear hvp
      cases ao with
      | true =>
        go_wp2_with fail
        refine (HF.out _ HW10.out).mono ?_
        rintro e _ ⟨rfl, rfl⟩
        clear HF q0 q1 q2 q3 ql
        have hVO := vopen_any g Bm n m root S opn _ (HVR.out.below (below_alloc (Below.refl _ _) (.cells #[.bool true, .int .i64 a.s.1, .int .i64 a.s.2, .slice a.A a.p.length a.c] 48))) hm16
        have hRO : ∀ W, RV W base gr n m root S opn → _ := fun W hW => ropen_any base gr n m root S opn W hW (by omega) (joinF_perm (ord_perm HKY.out.1 HKY.out.2) n)
        obtain ⟨⟨o1, o2⟩, hoo⟩ : ∃ oo, opnR n m S opn = oo := ⟨_, rfl⟩
        rw [hoo] at hVO hRO
        have HVO := Lib.hid hVO
        have HRO := Lib.hid hRO
        simp only [] at HVO HRO
        clear hVO hRO hoo
        go_wp2_with fail
        refine (HVO.out).mono ?_
        rintro e wA ⟨rfl, hV, hc⟩
        have HVA := Lib.hid hV
        have HWA := Lib.hid (below_chg HW10.out hc HGB.out)
        have HRA := Lib.hid ((HRR.out.below (below_alloc (Below.refl _ _) _)).chg hc (fun k hk => by have := HLT.out; simp only [List.mem_cons, List.not_mem_nil, or_false] at hk; rcases hk with rfl | rfl <;> omega))
        clear hV hc
        go_wp2_with fail
        refine (HRO.out wA HRA.out).mono ?_
        rintro e wB ⟨rfl, hR, hb, -⟩
        have HRB := Lib.hid hR
        have HVB := Lib.hid (HVA.out.base hb HLT.out.1 HLT.out.2.1)
        have HWB := Lib.hid (HWA.out.trans (hb.mono HLT.out.2.2))
        clear hR hb
        go_wp2
        go_roundw
        case rel => exact ⟨k + 1, S, _, by omega, by go_num, HWB.out, HVB.out, HRB.out, HKY.out, by omega⟩
        case measure => simp [intOf]; omega
      | false =>
      go_wp2_with fail
      refine (HF.out _ HW10.out).mono ?_
      rintro e _ ⟨rfl, rfl⟩
      clear HF q0 q1 q2 q3 ql
      have HS0 : Hid (Blk (World.drew (wr.alloc (.cells #[.bool false, .int .i64 a.s.1, .int .i64 a.s.2, .slice a.A a.p.length a.c] 48))) wr.heap.size 48 #[.bool false, .int .i64 a.s.1, .int .i64 a.s.2, .slice a.A a.p.length a.c]) := Lib.hid (Blk.new wr _ _ _ rfl)
      obtain ⟨oe, hoe⟩ : ∃ oe, offE root m S opn a.s a.p = oe := ⟨_, rfl⟩
      obtain ⟨S', hS'⟩ : ∃ S', offS root m S opn a.s a.p = S' := ⟨_, rfl⟩
      have HKY' := HKY.out.off root opn a.s a.p
      rw [hS'] at HKY'
      have HK2 := Lib.hid HKY'
      have HVO : Hid (∀ W, PV W g Bm n m root S opn → Below w.heap.size w W → _) := Lib.hid (fun W hV hW => voffer_any g Bm n m root S opn a.s a.A a.c a.p W hV (by omega) (HPP.out W hW) (by omega) QF.out.2.2.1 HSM.out (HT.out W hW))
      have HRO : Hid (∀ W, RV W base gr n m root S opn → Below w.heap.size w W → _) := Lib.hid (fun W hR hW => roffer_any base gr n m root S opn a.s a.A a.c a.p W hR (by omega) (HPP.out W hW) (by omega) QF.out.2.2.1 HSM.out)
      rw [hoe, hS'] at HVO HRO
      clear hoe hS' HKY'
      go_wp2_with fail
      refine wp_region_held_drew (S := fun W => Blk W wr.heap.size 48 #[.bool false, .int .i64 a.s.1, .int .i64 a.s.2, .slice a.A a.p.length a.c]) (by kernel_rfl) (HS0.out) (fun hS0 => ?_)
      refine wpAnyH_take (i := 0) (v := ?_) rfl (by kernel_rfl) (by kernel_rfl) (by kernel_rfl) (fun _ _ _ h => h) (Or.inl ⟨by kernel_rfl, ?hy⟩) hS0 ?rest
      case hy => (intro W hSw; clear hSw; go_simp; with_reducible rfl)
      case rest =>
      refine wpAnyH_take (i := 1) (v := ?_) rfl (by kernel_rfl) (by kernel_rfl) (by kernel_rfl) (fun _ _ _ h => h) (Or.inl ⟨by kernel_rfl, ?hy⟩) hS0 ?rest
      case hy => (intro W hSw; clear hSw; go_simp; with_reducible rfl)
      case rest =>
      refine wpAnyH_take (i := 2) (v := ?_) rfl (by kernel_rfl) (by kernel_rfl) (by kernel_rfl) (fun _ _ _ h => h) (Or.inl ⟨by kernel_rfl, ?hy⟩) hS0 ?rest
      case hy => (intro W hSw; have z1 := hSw.of_cell (i := 1) rfl; have z2 := hSw.of_cell (i := 2) rfl; have z3 := hSw.of_cell (i := 3) rfl; have zl := hSw.lt; clear hSw; go_simp; with_reducible rfl)
      case rest =>
      refine wpAnyH_take (i := 3) (v := ?_) rfl (by kernel_rfl) (by kernel_rfl) (by kernel_rfl) (fun _ _ _ h => h) (Or.inl ⟨by kernel_rfl, ?hy⟩) hS0 ?rest
      case hy => (intro W hSw; clear hSw; go_simp; with_reducible rfl)
      case rest =>
      refine wpAnyH_take (i := 4) (v := ?_) rfl (by kernel_rfl) (by kernel_rfl) (by kernel_rfl) (fun _ _ _ h => h) (Or.inl ⟨by kernel_rfl, ?hy⟩) hS0 ?rest
      case hy => (intro W hSw; have z1 := hSw.of_cell (i := 1) rfl; have z2 := hSw.of_cell (i := 2) rfl; have z3 := hSw.of_cell (i := 3) rfl; have zl := hSw.lt; clear hSw; go_simp; with_reducible rfl)
      case rest =>
      refine wpAnyH_take (i := 6) (v := ?_) rfl (by kernel_rfl) (by kernel_rfl) (by kernel_rfl) (fun _ _ _ h => h) (Or.inl ⟨by kernel_rfl, ?hy⟩) hS0 ?rest
      case hy => (intro W hSw; clear hSw; go_simp; with_reducible rfl)
      case rest =>
      try go_simp
      refine wpAnyH_take (i := 7) (v := ?_) rfl (by kernel_rfl) (by kernel_rfl) (by kernel_rfl) (fun _ _ _ h => h) (Or.inl ⟨by kernel_rfl, ?hy⟩) hS0 ?rest
      case hy => (intro W hSw; clear hSw; go_simp; with_reducible rfl)
      case rest =>
      refine wpAnyH_take (i := 8) (v := ?_) rfl (by kernel_rfl) (by kernel_rfl) (by kernel_rfl) (fun _ _ _ h => h) (Or.inl ⟨by kernel_rfl, ?hy⟩) hS0 ?rest
      case hy => (intro W hSw; have z1 := hSw.of_cell (i := 1) rfl; have z2 := hSw.of_cell (i := 2) rfl; have z3 := hSw.of_cell (i := 3) rfl; have zl := hSw.lt; clear hSw; go_simp; with_reducible rfl)
      case rest =>
      refine wpAnyH_take (i := 9) (v := ?_) rfl (by kernel_rfl) (by kernel_rfl) (by kernel_rfl) (fun _ _ _ h => h) (Or.inl ⟨by kernel_rfl, ?hy⟩) hS0 ?rest
      case hy => (intro W hSw; clear hSw; go_simp; with_reducible rfl)
      case rest =>
      refine wpAnyH_take (i := 10) (v := ?_) rfl (by kernel_rfl) (by kernel_rfl) (by kernel_rfl) (fun _ _ _ h => h) (Or.inl ⟨by kernel_rfl, ?hy⟩) hS0 ?rest
      case hy => (intro W hSw; have z1 := hSw.of_cell (i := 1) rfl; have z2 := hSw.of_cell (i := 2) rfl; have z3 := hSw.of_cell (i := 3) rfl; have zl := hSw.lt; clear hSw; go_simp; with_reducible rfl)
      case rest =>
      refine wpAnyH_ready (rs := [5]) (by kernel_rfl) (by simp) ?_
      refine AllReadyH.cons rfl (fun K hK => ?_) (AllReadyH.nil)
      go_simp
      refine (HVO.out _ (HVR.out.below (below_alloc (Below.refl _ _) _).drew) HW10.out.drew).mono ?_
      rintro e wA ⟨rfl, hV, hc⟩
      have HVA := Lib.hid hV
      have HWA := Lib.hid (below_chg HW10.out.drew hc HGB.out)
      have HRA := Lib.hid ((HRR.out.below (below_alloc (Below.refl _ _) _).drew).chg hc (fun k hk => by have := HLT.out; simp only [List.mem_cons, List.not_mem_nil, or_false] at hk; rcases hk with rfl | rfl <;> omega))
      go_simp
      refine hK.out _ _ ((hc.block _ hS0.lt (fun hm => by have := HVR.out.lt; simp only [List.mem_cons, List.not_mem_nil, or_false] at hm; omega)).trans hS0) (fun hS1 => ?_)
      clear hK K hV hc hS0
      refine wpAnyH_ready (rs := [11]) (by kernel_rfl) (by simp) ?_
      refine AllReadyH.cons rfl (fun K hK => ?_) (AllReadyH.nil)
      go_simp
      refine (HRO.out _ HRA.out HWA.out).mono ?_
      rintro e wB ⟨rfl, hR, hb, hkp⟩
      have HRB := Lib.hid hR
      have HVB := Lib.hid (HVA.out.base hb HLT.out.1 HLT.out.2.1)
      have HWB := Lib.hid (HWA.out.trans (hb.mono HLT.out.2.2))
      go_simp
      refine hK.out _ _ (hkp _ _ _ hS1 (by decide) (by decide)) (fun hS2 => ?_)
      clear hK K hR hb hkp hS1
      refine wpAnyH_take (i := 12) (v := ?_) rfl (by kernel_rfl) (by kernel_rfl) (by kernel_rfl) (fun _ _ _ h => h) (Or.inl ⟨by kernel_rfl, ?hy⟩) hS2 ?rest
      case hy => (intro W hSw; clear hSw; go_simp; with_reducible rfl)
      case rest =>
      refine wpAnyH_done (by kernel_rfl) ?_ _
      clear hS2
      go_wp2
      go_roundw
      case rel => exact ⟨k + 1, S', opn, by omega, by go_num, HWB.out, HVB.out, HRB.out, HK2.out.1, by have := HK2.out.2; omega⟩
      case measure => simp [intOf]; omega
end

section
open Go.RowKit
set_option maxRecDepth 100000 in
set_option maxHeartbeats 64000000 in
theorem mref52_c (A : Option Addr) (c : Nat) (values : List Int) (secret need total : Int) (root : ByteArray) (D : Option Addr) (d : Nat) (steps : List Stp) (w : World) (hT : Tabs w) (hA : Ints w A values) (hvl : values.length ≤ 9223372036854775807) (hD : Stps w D steps) (hsl : steps.length ≤ 9223372036854775807) (hz0 : 20 < values.length) (hq0 : ¬ values.length = 1000) (hq1 : values.length = 1001) :
    Calls Tryz.prog 4 #[.slice A values.length c, .int .i64 secret, .int .i64 need, .int .i64 total, .string root, .slice D steps.length d] w fun e w' => e = .returned (.bool true) ∧ Below w.heap.size w w' := by
  have HH := Lib.hid (bhead_any w hT)
  have HT : Hid (∀ W, Below w.heap.size w W → Tabs W) := Lib.hid (fun W hW => hT.below hW)
  have HST : Hid (∀ W, Below w.heap.size w W → Stps W D steps) := Lib.hid (fun W hW => hD.below hW)
  obtain ⟨e1, he1⟩ : ∃ e : Int, (if mvOk values secret 1000000000 then 0 else 1) = e := ⟨_, rfl⟩
  obtain ⟨e2, he2⟩ : ∃ e : Int, (if mvOk values secret 1001000002 then 0 else 1) = e := ⟨_, rfl⟩
  have hl1 := mvL_len values secret 1000000000 1
  have hl2 := mvL_len values secret 1001000002 (-1)
  have HB1 : Hid (∀ W, Below w.heap.size w W → _) := Lib.hid (fun W hW => blind_any A c values secret W (hA.below hW) hvl (hT.below hW))
  have HB2 : Hid (∀ W, Below w.heap.size w W → _) := Lib.hid (fun W hW => rblind_any A c values secret W (hA.below hW) hvl)
  have HB3 : Hid (∀ W, Below w.heap.size w W → _) := Lib.hid (fun W hW => unblind_any A c values secret W (hA.below hW) hvl (hT.below hW))
  have HB4 : Hid (∀ W, Below w.heap.size w W → _) := Lib.hid (fun W hW => runblind_any A c values secret W (hA.below hW) hvl)
  unfold blL at HB1
  unfold unL at HB3
  rw [he1] at HB1 HB2
  rw [he2] at HB3 HB4
  generalize mvL values secret 1000000000 1 = la at *
  generalize mvL values secret 1001000002 (-1) = lb at *
  have HSA : Hid (∀ (W : World) (A B : Option Addr) (c d : Nat), Ints W A la → Ints W B la → Calls Tryz.prog 21 #[.slice A la.length c, .slice B la.length d] W fun e w' => e = .returned (.bool true) ∧ Below W.heap.size W w') := Lib.hid (fun W A B c d h1 h2 => by
    have := isame_any A B c d la la W h1 h2 (by omega) (by omega)
    rw [decide_eq_true rfl] at this
    exact this)
  have HSB : Hid (∀ (W : World) (A B : Option Addr) (c d : Nat), Ints W A lb → Ints W B lb → Calls Tryz.prog 21 #[.slice A lb.length c, .slice B lb.length d] W fun e w' => e = .returned (.bool true) ∧ Below W.heap.size W w') := Lib.hid (fun W A B c d h1 h2 => by
    have := isame_any A B c d lb lb W h1 h2 (by omega) (by omega)
    rw [decide_eq_true rfl] at this
    exact this)
  clear hT hA hD he1 he2 hl1 hl2
  have hdv : decide (20 < values.length) = true := decide_eq_true (by omega)
  have hiv : (20 : Int) < (values.length : Int) := by omega
  have hjv : decide ((20 : Int) < (values.length : Int)) = true := decide_eq_true hiv
  have hm1000 : ((values.length : Int) == 1000) = false := by simp; omega
  have hn1000 : ((values.length : Int) != 1000) = true := by simp; omega
  have hm1001 : ((values.length : Int) == 1001) = true := by simp; omega
  have hn1001 : ((values.length : Int) != 1001) = false := by simp; omega
  clear hq0 hq1
  by_cases hz1 : 60 < root.size
  case pos =>
    have hdr : decide (60 < root.size) = true := decide_eq_true (by omega)
    have hir : (60 : Int) < (root.size : Int) := by omega
    have hjr : decide ((60 : Int) < (root.size : Int)) = true := decide_eq_true hir
    go_enter Tryz.func4, Tryz.ntmps4
    go_wp2_with fail
    refine (HH.out).mono ?_
    rintro e w1 ⟨rfl, hb⟩
    have HW1 := Lib.hid hb
    clear hb
    go_wp2
    go_ret
    exact ⟨rfl, HW1.out⟩
  case neg =>
  have hdr : decide (60 < root.size) = false := decide_eq_false (by omega)
  have hir : ¬ (60 : Int) < (root.size : Int) := by omega
  have hjr : decide ((60 : Int) < (root.size : Int)) = false := decide_eq_false hir
  by_cases hz2 : 12 < steps.length
  case pos =>
    have hds : decide (12 < steps.length) = true := decide_eq_true (by omega)
    have his : (12 : Int) < (steps.length : Int) := by omega
    have hjs : decide ((12 : Int) < (steps.length : Int)) = true := decide_eq_true his
    go_enter Tryz.func4, Tryz.ntmps4
    go_wp2_with fail
    refine (HH.out).mono ?_
    rintro e w1 ⟨rfl, hb⟩
    have HW1 := Lib.hid hb
    clear hb
    go_wp2
    go_ret
    exact ⟨rfl, HW1.out⟩
  case neg =>
  have hds : decide (12 < steps.length) = false := decide_eq_false (by omega)
  have his : ¬ (12 : Int) < (steps.length : Int) := by omega
  have hjs : decide ((12 : Int) < (steps.length : Int)) = false := decide_eq_false his
  obtain ⟨nk, hnk⟩ : ∃ b, newOk need total root = b := ⟨_, rfl⟩
  cases nk with
  | false =>
    have HN1 : Hid (∀ W : World, _) := Lib.hid (fun W => vnew_bad need total root W (by omega) hnk)
    have HN2 : Hid (∀ W : World, _) := Lib.hid (fun W => rnew_bad need total root W (by omega) hnk)
    clear hnk
    go_enter Tryz.func4, Tryz.ntmps4
    go_wp2_with fail
    refine (HH.out).mono ?_
    rintro e w1 ⟨rfl, hb⟩
    have HW1 := Lib.hid hb
    clear hb
    go_wp2_with fail
    refine (HB1.out w1 HW1.out).mono ?_
    rintro e w2 ⟨va, rfl, ho, hb⟩
    obtain ⟨Aa, ca, rfl, -, -, hr⟩ := Rd.of_own ho
    have HIa : Hid (∀ W, Below w2.heap.size w2 W → Ints W Aa la) := Lib.hid (fun W hW => Ints.below (show Ints w2 Aa la from hr) hW)
    have HW2 := Lib.hid (below_trans HW1.out hb)
    clear ho hb hr
    go_wp2_with fail
    refine (HB2.out w2 HW2.out).mono ?_
    rintro e w3 ⟨vb, rfl, ho, hb⟩
    obtain ⟨Ab, cb, rfl, -, -, hr⟩ := Rd.of_own ho
    have HIb : Hid (∀ W, Below w3.heap.size w3 W → Ints W Ab la) := Lib.hid (fun W hW => Ints.below (show Ints w3 Ab la from hr) hW)
    have HIa : Hid (∀ W, Below w3.heap.size w3 W → Ints W Aa la) := Lib.hid (fun W hW => HIa.out W (below_trans hb hW))
    have HW3 := Lib.hid (below_trans HW2.out hb)
    clear ho hb hr
    go_wp2_with fail
    refine (HB3.out w3 HW3.out).mono ?_
    rintro e w4 ⟨vc, rfl, ho, hb⟩
    obtain ⟨Ac, cc, rfl, -, -, hr⟩ := Rd.of_own ho
    have HIc : Hid (∀ W, Below w4.heap.size w4 W → Ints W Ac lb) := Lib.hid (fun W hW => Ints.below (show Ints w4 Ac lb from hr) hW)
    have HIa : Hid (∀ W, Below w4.heap.size w4 W → Ints W Aa la) := Lib.hid (fun W hW => HIa.out W (below_trans hb hW))
    have HIb : Hid (∀ W, Below w4.heap.size w4 W → Ints W Ab la) := Lib.hid (fun W hW => HIb.out W (below_trans hb hW))
    have HW4 := Lib.hid (below_trans HW3.out hb)
    clear ho hb hr
    go_wp2_with fail
    refine (HB4.out w4 HW4.out).mono ?_
    rintro e w5 ⟨vd, rfl, ho, hb⟩
    obtain ⟨Ad, cd, rfl, -, -, hr⟩ := Rd.of_own ho
    have HId : Hid (∀ W, Below w5.heap.size w5 W → Ints W Ad lb) := Lib.hid (fun W hW => Ints.below (show Ints w5 Ad lb from hr) hW)
    have HIa : Hid (∀ W, Below w5.heap.size w5 W → Ints W Aa la) := Lib.hid (fun W hW => HIa.out W (below_trans hb hW))
    have HIb : Hid (∀ W, Below w5.heap.size w5 W → Ints W Ab la) := Lib.hid (fun W hW => HIb.out W (below_trans hb hW))
    have HIc : Hid (∀ W, Below w5.heap.size w5 W → Ints W Ac lb) := Lib.hid (fun W hW => HIc.out W (below_trans hb hW))
    have HW5 := Lib.hid (below_trans HW4.out hb)
    clear ho hb hr
    go_wp2_with fail
    refine (HN1.out w5).mono ?_
    rintro e w6 ⟨rfl, hb⟩
    have HX6 := Lib.hid hb
    clear hb
    go_wp2_with fail
    refine (HN2.out w6).mono ?_
    rintro e w7 ⟨rfl, hb⟩
    have HX7 := Lib.hid (below_trans HX6.out hb)
    clear hb
    go_wp2_with fail
    refine (HSA.out w7 Aa Ab ca cb (HIa.out _ HX7.out) (HIb.out _ HX7.out)).mono ?_
    rintro e w8 ⟨rfl, hb⟩
    have HX8 := Lib.hid (below_trans HX7.out hb)
    have HX87 := Lib.hid hb
    clear hb
    go_wp2_with fail
    refine (HSB.out w8 Ac Ad cc cd (HIc.out _ HX8.out) (HId.out _ HX8.out)).mono ?_
    rintro e w9 ⟨rfl, hb⟩
    have HX9 := Lib.hid (below_trans HX8.out hb)
    have HW9 := Lib.hid (below_trans HW5.out HX9.out)
    have HX97 := Lib.hid (below_trans HX87.out hb)
    clear hb
    clear HN1 HN2
    go_wp2_with fail
    go_loopw [26] (fun u26 wr => ∃ k : Nat, k ≤ steps.length ∧ u26 = .int .i64 k ∧ Below w.heap.size w wr) (fun u26 _ => steps.length - (intOf u26).toNat)
    case atStart => exact ⟨0, Nat.zero_le _, rfl, HW9.out⟩
    case round =>
    obtain ⟨k, hk, rfl, hb⟩ := hrel
    have HWR := Lib.hid hb
    clear hb
    by_cases hlt : k < steps.length
    case neg =>
      obtain rfl : k = steps.length := by omega
      go_wp2
      go_ret
      exact ⟨rfl, HWR.out⟩
    case pos =>
      obtain ⟨a, ha⟩ := get_some steps k hlt
      have HPP : Hid (∀ W, Below w.heap.size w W → Strs W a.A a.p) := Lib.hid (fun W hW => by
        obtain ⟨b', o', e, hc'⟩ := HST.out W hW (by omega)
        exact (hc' k a ha).2.2.2.2.1)
      obtain ⟨bS, oS, rfl, hc⟩ := HST.out wr HWR.out (by omega)
      obtain ⟨q0, q1, q2, q3, -, qf⟩ := hc k a ha
      have ql := lt_of_cell q0
      have hki : (k : Int) < (steps.length : Int) := by omega
      have QF := Lib.hid qf
      have hal := qf.2.2.2
      clear hc ha qf
      obtain ⟨ao, hao⟩ : ∃ b, a.o = b := ⟨_, rfl⟩
      rw [hao] at q0
      clear hao
      have HF := Lib.hid (fun W (hW : Below w.heap.size w W) => few_any a.A a.c a.p 60 W (HPP.out W hW) hal)
      obtain ⟨vp, hvp⟩ : ∃ v, fewB a.p 60 = v := ⟨_, rfl⟩
      rw [hvp] at HF
      have HW10 : Hid (Below w.heap.size w (wr.alloc (.cells #[.bool ao, .int .i64 a.s.1, .int .i64 a.s.2, .slice a.A a.p.length a.c] 48))) := Lib.hid (below_alloc HWR.out _)
      by_cases hz3 : 20 < a.p.length
      case pos =>
        have hdp : decide (20 < a.p.length) = true := decide_eq_true (by omega)
        have hip : (20 : Int) < (a.p.length : Int) := by omega
        have hjp : decide ((20 : Int) < (a.p.length : Int)) = true := decide_eq_true hip
        clear hvp
        go_wp2
        go_ret
        exact ⟨rfl, HW10.out⟩
      case neg =>
      have hdp : decide (20 < a.p.length) = false := decide_eq_false (by omega)
      have hip : ¬ (20 : Int) < (a.p.length : Int) := by omega
      have hjp : decide ((20 : Int) < (a.p.length : Int)) = false := decide_eq_false hip
      cases vp with
      | false =>
        clear hvp
        go_wp2_with fail
        refine (HF.out _ HW10.out).mono ?_
        rintro e _ ⟨rfl, rfl⟩
        go_wp2
        go_ret
        exact ⟨rfl, HW10.out⟩
      | true =>
      have HSM := Lib.hid (few60 hvp)
      clear hvp
      cases ao with
      | true =>
        go_wp2_with fail
        refine (HF.out _ HW10.out).mono ?_
        rintro e _ ⟨rfl, rfl⟩
        clear HF q0 q1 q2 q3 ql
        go_wp2_with fail
        refine (vopen_nil _).mono ?_
        rintro e wA ⟨rfl, hb⟩
        have HWA := Lib.hid (below_trans HW10.out hb)
        clear hb
        go_wp2_with fail
        refine (ropen_nil _).mono ?_
        rintro e wB ⟨rfl, hb⟩
        have HWB := Lib.hid (below_trans HWA.out hb)
        clear hb
        go_wp2
        go_roundw
        case rel => exact ⟨k + 1, by omega, by go_num, HWB.out⟩
        case measure => simp [intOf]; omega
      | false =>
      go_wp2_with fail
      refine (HF.out _ HW10.out).mono ?_
      rintro e _ ⟨rfl, rfl⟩
      clear HF q0 q1 q2 q3 ql
      have HS0 : Hid (Blk (World.drew (wr.alloc (.cells #[.bool false, .int .i64 a.s.1, .int .i64 a.s.2, .slice a.A a.p.length a.c] 48))) wr.heap.size 48 #[.bool false, .int .i64 a.s.1, .int .i64 a.s.2, .slice a.A a.p.length a.c]) := Lib.hid (Blk.new wr _ _ _ rfl)
      go_wp2_with fail
      refine wp_region_held_drew (S := fun W => Blk W wr.heap.size 48 #[.bool false, .int .i64 a.s.1, .int .i64 a.s.2, .slice a.A a.p.length a.c]) (by kernel_rfl) (HS0.out) (fun hS0 => ?_)
      refine wpAnyH_take (i := 0) (v := ?_) rfl (by kernel_rfl) (by kernel_rfl) (by kernel_rfl) (fun _ _ _ h => h) (Or.inl ⟨by kernel_rfl, ?hy⟩) hS0 ?rest
      case hy => (intro W hSw; clear hSw; go_simp; with_reducible rfl)
      case rest =>
      refine wpAnyH_take (i := 1) (v := ?_) rfl (by kernel_rfl) (by kernel_rfl) (by kernel_rfl) (fun _ _ _ h => h) (Or.inl ⟨by kernel_rfl, ?hy⟩) hS0 ?rest
      case hy => (intro W hSw; clear hSw; go_simp; with_reducible rfl)
      case rest =>
      refine wpAnyH_take (i := 2) (v := ?_) rfl (by kernel_rfl) (by kernel_rfl) (by kernel_rfl) (fun _ _ _ h => h) (Or.inl ⟨by kernel_rfl, ?hy⟩) hS0 ?rest
      case hy => (intro W hSw; have z1 := hSw.of_cell (i := 1) rfl; have z2 := hSw.of_cell (i := 2) rfl; have z3 := hSw.of_cell (i := 3) rfl; have zl := hSw.lt; clear hSw; go_simp; with_reducible rfl)
      case rest =>
      refine wpAnyH_take (i := 3) (v := ?_) rfl (by kernel_rfl) (by kernel_rfl) (by kernel_rfl) (fun _ _ _ h => h) (Or.inl ⟨by kernel_rfl, ?hy⟩) hS0 ?rest
      case hy => (intro W hSw; clear hSw; go_simp; with_reducible rfl)
      case rest =>
      refine wpAnyH_take (i := 4) (v := ?_) rfl (by kernel_rfl) (by kernel_rfl) (by kernel_rfl) (fun _ _ _ h => h) (Or.inl ⟨by kernel_rfl, ?hy⟩) hS0 ?rest
      case hy => (intro W hSw; have z1 := hSw.of_cell (i := 1) rfl; have z2 := hSw.of_cell (i := 2) rfl; have z3 := hSw.of_cell (i := 3) rfl; have zl := hSw.lt; clear hSw; go_simp; with_reducible rfl)
      case rest =>
      refine wpAnyH_take (i := 6) (v := ?_) rfl (by kernel_rfl) (by kernel_rfl) (by kernel_rfl) (fun _ _ _ h => h) (Or.inl ⟨by kernel_rfl, ?hy⟩) hS0 ?rest
      case hy => (intro W hSw; clear hSw; go_simp; with_reducible rfl)
      case rest =>
      try go_simp
      refine wpAnyH_take (i := 7) (v := ?_) rfl (by kernel_rfl) (by kernel_rfl) (by kernel_rfl) (fun _ _ _ h => h) (Or.inl ⟨by kernel_rfl, ?hy⟩) hS0 ?rest
      case hy => (intro W hSw; clear hSw; go_simp; with_reducible rfl)
      case rest =>
      refine wpAnyH_take (i := 8) (v := ?_) rfl (by kernel_rfl) (by kernel_rfl) (by kernel_rfl) (fun _ _ _ h => h) (Or.inl ⟨by kernel_rfl, ?hy⟩) hS0 ?rest
      case hy => (intro W hSw; have z1 := hSw.of_cell (i := 1) rfl; have z2 := hSw.of_cell (i := 2) rfl; have z3 := hSw.of_cell (i := 3) rfl; have zl := hSw.lt; clear hSw; go_simp; with_reducible rfl)
      case rest =>
      refine wpAnyH_take (i := 9) (v := ?_) rfl (by kernel_rfl) (by kernel_rfl) (by kernel_rfl) (fun _ _ _ h => h) (Or.inl ⟨by kernel_rfl, ?hy⟩) hS0 ?rest
      case hy => (intro W hSw; clear hSw; go_simp; with_reducible rfl)
      case rest =>
      refine wpAnyH_take (i := 10) (v := ?_) rfl (by kernel_rfl) (by kernel_rfl) (by kernel_rfl) (fun _ _ _ h => h) (Or.inl ⟨by kernel_rfl, ?hy⟩) hS0 ?rest
      case hy => (intro W hSw; have z1 := hSw.of_cell (i := 1) rfl; have z2 := hSw.of_cell (i := 2) rfl; have z3 := hSw.of_cell (i := 3) rfl; have zl := hSw.lt; clear hSw; go_simp; with_reducible rfl)
      case rest =>
      refine wpAnyH_ready (rs := [5]) (by kernel_rfl) (by simp) ?_
      refine AllReadyH.cons rfl (fun K hK => ?_) (AllReadyH.nil)
      go_simp
      refine (voffer_nil a.s _ _).mono ?_
      rintro e wA ⟨rfl, hb⟩
      have HWA := Lib.hid (below_trans HW10.out.drew hb)
      go_simp
      refine hK.out _ _ ((hb.block _ hS0.lt).trans hS0) (fun hS1 => ?_)
      clear hK K hb hS0
      refine wpAnyH_ready (rs := [11]) (by kernel_rfl) (by simp) ?_
      refine AllReadyH.cons rfl (fun K hK => ?_) (AllReadyH.nil)
      go_simp
      refine (roffer_nil a.s _ _).mono ?_
      rintro e wB ⟨rfl, hb⟩
      have HWB := Lib.hid (below_trans HWA.out hb)
      go_simp
      refine hK.out _ _ ((hb.block _ hS1.lt).trans hS1) (fun hS2 => ?_)
      clear hK K hb hS1
      refine wpAnyH_take (i := 12) (v := ?_) rfl (by kernel_rfl) (by kernel_rfl) (by kernel_rfl) (fun _ _ _ h => h) (Or.inl ⟨by kernel_rfl, ?hy⟩) hS2 ?rest
      case hy => (intro W hSw; clear hSw; go_simp; with_reducible rfl)
      case rest =>
      refine wpAnyH_done (by kernel_rfl) ?_ _
      clear hS2
      go_wp2
      go_roundw
      case rel => exact ⟨k + 1, by omega, by go_num, HWB.out⟩
      case measure => simp [intOf]; omega
  | true =>
  have hnk' := hnk
  simp only [newOk, Bool.and_eq_true, decide_eq_true_eq] at hnk'
  obtain ⟨⟨b1, b2, b3, b4⟩, b5⟩ := hnk'
  obtain ⟨n, rfl⟩ : ∃ n : Nat, need = n := ⟨need.toNat, by omega⟩
  obtain ⟨m, rfl⟩ : ∃ m : Nat, total = m := ⟨total.toNat, by omega⟩
  have HN1 : Hid (∀ W : World, _) := Lib.hid (fun W => vnew_ok n m root W (by omega) (by omega) (by omega) (by omega) b5)
  have HN2 : Hid (∀ W : World, _) := Lib.hid (fun W => rnew_ok n m root W (by omega) (by omega) (by omega) (by omega) b5)
  have hm16 : m ≤ 16 := by omega
  clear hnk b1 b2 b3 b4 b5
  go_enter Tryz.func4, Tryz.ntmps4
  go_wp2_with fail
  refine (HH.out).mono ?_
  rintro e w1 ⟨rfl, hb⟩
  have HW1 := Lib.hid hb
  clear hb
  go_wp2_with fail
  refine (HB1.out w1 HW1.out).mono ?_
  rintro e w2 ⟨va, rfl, ho, hb⟩
  obtain ⟨Aa, ca, rfl, -, -, hr⟩ := Rd.of_own ho
  have HIa : Hid (∀ W, Below w2.heap.size w2 W → Ints W Aa la) := Lib.hid (fun W hW => Ints.below (show Ints w2 Aa la from hr) hW)
  have HW2 := Lib.hid (below_trans HW1.out hb)
  clear ho hb hr
  go_wp2_with fail
  refine (HB2.out w2 HW2.out).mono ?_
  rintro e w3 ⟨vb, rfl, ho, hb⟩
  obtain ⟨Ab, cb, rfl, -, -, hr⟩ := Rd.of_own ho
  have HIb : Hid (∀ W, Below w3.heap.size w3 W → Ints W Ab la) := Lib.hid (fun W hW => Ints.below (show Ints w3 Ab la from hr) hW)
  have HIa : Hid (∀ W, Below w3.heap.size w3 W → Ints W Aa la) := Lib.hid (fun W hW => HIa.out W (below_trans hb hW))
  have HW3 := Lib.hid (below_trans HW2.out hb)
  clear ho hb hr
  go_wp2_with fail
  refine (HB3.out w3 HW3.out).mono ?_
  rintro e w4 ⟨vc, rfl, ho, hb⟩
  obtain ⟨Ac, cc, rfl, -, -, hr⟩ := Rd.of_own ho
  have HIc : Hid (∀ W, Below w4.heap.size w4 W → Ints W Ac lb) := Lib.hid (fun W hW => Ints.below (show Ints w4 Ac lb from hr) hW)
  have HIa : Hid (∀ W, Below w4.heap.size w4 W → Ints W Aa la) := Lib.hid (fun W hW => HIa.out W (below_trans hb hW))
  have HIb : Hid (∀ W, Below w4.heap.size w4 W → Ints W Ab la) := Lib.hid (fun W hW => HIb.out W (below_trans hb hW))
  have HW4 := Lib.hid (below_trans HW3.out hb)
  clear ho hb hr
  go_wp2_with fail
  refine (HB4.out w4 HW4.out).mono ?_
  rintro e w5 ⟨vd, rfl, ho, hb⟩
  obtain ⟨Ad, cd, rfl, -, -, hr⟩ := Rd.of_own ho
  have HId : Hid (∀ W, Below w5.heap.size w5 W → Ints W Ad lb) := Lib.hid (fun W hW => Ints.below (show Ints w5 Ad lb from hr) hW)
  have HIa : Hid (∀ W, Below w5.heap.size w5 W → Ints W Aa la) := Lib.hid (fun W hW => HIa.out W (below_trans hb hW))
  have HIb : Hid (∀ W, Below w5.heap.size w5 W → Ints W Ab la) := Lib.hid (fun W hW => HIb.out W (below_trans hb hW))
  have HIc : Hid (∀ W, Below w5.heap.size w5 W → Ints W Ac lb) := Lib.hid (fun W hW => HIc.out W (below_trans hb hW))
  have HW5 := Lib.hid (below_trans HW4.out hb)
  clear ho hb hr
  go_wp2_with fail
  refine (HN1.out w5).mono ?_
  rintro e w6 ⟨g, Bm, rfl, hV, hg, hB, hb⟩
  have HV6 := Lib.hid hV
  have HGB : Hid (∀ k, k ∈ [g, Bm] → w.heap.size ≤ k) := Lib.hid (by have := HW5.out.size; intro k hk; simp only [List.mem_cons, List.not_mem_nil, or_false] at hk; rcases hk with rfl | rfl <;> omega)
  have HX6 := Lib.hid hb
  clear hV hg hB hb
  go_wp2_with fail
  refine (HN2.out w6).mono ?_
  rintro e w7 ⟨gr, rfl, hR, hb⟩
  have HR7 := Lib.hid hR
  have HX7 := Lib.hid (below_trans HX6.out hb)
  have HX76 := Lib.hid hb
  clear hR hb
  go_wp2_with fail
  refine (HSA.out w7 Aa Ab ca cb (HIa.out _ HX7.out) (HIb.out _ HX7.out)).mono ?_
  rintro e w8 ⟨rfl, hb⟩
  have HX8 := Lib.hid (below_trans HX7.out hb)
  have HX87 := Lib.hid hb
  clear hb
  go_wp2_with fail
  refine (HSB.out w8 Ac Ad cc cd (HIc.out _ HX8.out) (HId.out _ HX8.out)).mono ?_
  rintro e w9 ⟨rfl, hb⟩
  have HX9 := Lib.hid (below_trans HX8.out hb)
  have HW9 := Lib.hid (below_trans HW5.out HX9.out)
  have HX97 := Lib.hid (below_trans HX87.out hb)
  clear hb
  have HV9 := Lib.hid (HV6.out.below (below_trans HX76.out HX97.out))
  have HR9 := Lib.hid (HR7.out.below HX97.out)
  have HLT : Hid (g < w6.heap.size ∧ Bm < w6.heap.size ∧ w.heap.size ≤ w6.heap.size) := Lib.hid ⟨HV6.out.lt.1, HV6.out.lt.2, by have := HW5.out.size; have := HX6.out.size; omega⟩
  clear HV6 HR7 HN1 HN2
  generalize w6.heap.size = base at *
  go_wp2_with fail
  go_loopw [26] (fun u26 wr => ∃ (k : Nat) (S : List (Int × Int)) (opn : Bool), k ≤ steps.length ∧ u26 = .int .i64 k ∧ Below w.heap.size w wr ∧ PV wr g Bm n m root S opn ∧ RV wr base gr n m root S opn ∧ KY S m ∧ S.length ≤ k) (fun u26 _ => steps.length - (intOf u26).toNat)
  case atStart => exact ⟨0, [], false, Nat.zero_le _, rfl, HW9.out, HV9.out, HR9.out, ⟨by simp, fun s hs => by cases hs⟩, by simp⟩
  case round =>
  obtain ⟨k, S, opn, hk, rfl, hb, hV, hR, hKY, hSk⟩ := hrel
  have HWR := Lib.hid hb
  have HVR := Lib.hid hV
  have HRR := Lib.hid hR
  have HKY := Lib.hid hKY
  clear hb hV hR hKY
  by_cases hlt : k < steps.length
  case neg =>
    obtain rfl : k = steps.length := by omega
    go_wp2
    go_ret
    exact ⟨rfl, HWR.out⟩
  case pos =>
      obtain ⟨a, ha⟩ := get_some steps k hlt
      have HPP : Hid (∀ W, Below w.heap.size w W → Strs W a.A a.p) := Lib.hid (fun W hW => by
        obtain ⟨b', o', e, hc'⟩ := HST.out W hW (by omega)
        exact (hc' k a ha).2.2.2.2.1)
      obtain ⟨bS, oS, rfl, hc⟩ := HST.out wr HWR.out (by omega)
      obtain ⟨q0, q1, q2, q3, -, qf⟩ := hc k a ha
      have ql := lt_of_cell q0
      have hki : (k : Int) < (steps.length : Int) := by omega
      have QF := Lib.hid qf
      have hal := qf.2.2.2
      clear hc ha qf
      obtain ⟨ao, hao⟩ : ∃ b, a.o = b := ⟨_, rfl⟩
      rw [hao] at q0
      clear hao
      have HF := Lib.hid (fun W (hW : Below w.heap.size w W) => few_any a.A a.c a.p 60 W (HPP.out W hW) hal)
      obtain ⟨vp, hvp⟩ : ∃ v, fewB a.p 60 = v := ⟨_, rfl⟩
      rw [hvp] at HF
      have HW10 : Hid (Below w.heap.size w (wr.alloc (.cells #[.bool ao, .int .i64 a.s.1, .int .i64 a.s.2, .slice a.A a.p.length a.c] 48))) := Lib.hid (below_alloc HWR.out _)
      by_cases hz3 : 20 < a.p.length
      case pos =>
        have hdp : decide (20 < a.p.length) = true := decide_eq_true (by omega)
        have hip : (20 : Int) < (a.p.length : Int) := by omega
        have hjp : decide ((20 : Int) < (a.p.length : Int)) = true := decide_eq_true hip
        clear hvp
        go_wp2
        go_ret
        exact ⟨rfl, HW10.out⟩
      case neg =>
      have hdp : decide (20 < a.p.length) = false := decide_eq_false (by omega)
      have hip : ¬ (20 : Int) < (a.p.length : Int) := by omega
      have hjp : decide ((20 : Int) < (a.p.length : Int)) = false := decide_eq_false hip
      cases vp with
      | false =>
        clear hvp
        go_wp2_with fail
        refine (HF.out _ HW10.out).mono ?_
        rintro e _ ⟨rfl, rfl⟩
        go_wp2
        go_ret
        exact ⟨rfl, HW10.out⟩
      | true =>
      have HSM := Lib.hid (few60 hvp)
      clear hvp
      cases ao with
      | true =>
        go_wp2_with fail
        refine (HF.out _ HW10.out).mono ?_
        rintro e _ ⟨rfl, rfl⟩
        clear HF q0 q1 q2 q3 ql
        have hVO := vopen_any g Bm n m root S opn _ (HVR.out.below (below_alloc (Below.refl _ _) (.cells #[.bool true, .int .i64 a.s.1, .int .i64 a.s.2, .slice a.A a.p.length a.c] 48))) hm16
        have hRO : ∀ W, RV W base gr n m root S opn → _ := fun W hW => ropen_any base gr n m root S opn W hW (by omega) (joinF_perm (ord_perm HKY.out.1 HKY.out.2) n)
        obtain ⟨⟨o1, o2⟩, hoo⟩ : ∃ oo, opnR n m S opn = oo := ⟨_, rfl⟩
        rw [hoo] at hVO hRO
        have HVO := Lib.hid hVO
        have HRO := Lib.hid hRO
        simp only [] at HVO HRO
        clear hVO hRO hoo
        go_wp2_with fail
        refine (HVO.out).mono ?_
        rintro e wA ⟨rfl, hV, hc⟩
        have HVA := Lib.hid hV
        have HWA := Lib.hid (below_chg HW10.out hc HGB.out)
        have HRA := Lib.hid ((HRR.out.below (below_alloc (Below.refl _ _) _)).chg hc (fun k hk => by have := HLT.out; simp only [List.mem_cons, List.not_mem_nil, or_false] at hk; rcases hk with rfl | rfl <;> omega))
        clear hV hc
        go_wp2_with fail
        refine (HRO.out wA HRA.out).mono ?_
        rintro e wB ⟨rfl, hR, hb, -⟩
        have HRB := Lib.hid hR
        have HVB := Lib.hid (HVA.out.base hb HLT.out.1 HLT.out.2.1)
        have HWB := Lib.hid (HWA.out.trans (hb.mono HLT.out.2.2))
        clear hR hb
        go_wp2
        go_roundw
        case rel => exact ⟨k + 1, S, _, by omega, by go_num, HWB.out, HVB.out, HRB.out, HKY.out, by omega⟩
        case measure => simp [intOf]; omega
      | false =>
      go_wp2_with fail
      refine (HF.out _ HW10.out).mono ?_
      rintro e _ ⟨rfl, rfl⟩
      clear HF q0 q1 q2 q3 ql
      have HS0 : Hid (Blk (World.drew (wr.alloc (.cells #[.bool false, .int .i64 a.s.1, .int .i64 a.s.2, .slice a.A a.p.length a.c] 48))) wr.heap.size 48 #[.bool false, .int .i64 a.s.1, .int .i64 a.s.2, .slice a.A a.p.length a.c]) := Lib.hid (Blk.new wr _ _ _ rfl)
      obtain ⟨oe, hoe⟩ : ∃ oe, offE root m S opn a.s a.p = oe := ⟨_, rfl⟩
      obtain ⟨S', hS'⟩ : ∃ S', offS root m S opn a.s a.p = S' := ⟨_, rfl⟩
      have HKY' := HKY.out.off root opn a.s a.p
      rw [hS'] at HKY'
      have HK2 := Lib.hid HKY'
      have HVO : Hid (∀ W, PV W g Bm n m root S opn → Below w.heap.size w W → _) := Lib.hid (fun W hV hW => voffer_any g Bm n m root S opn a.s a.A a.c a.p W hV (by omega) (HPP.out W hW) (by omega) QF.out.2.2.1 HSM.out (HT.out W hW))
      have HRO : Hid (∀ W, RV W base gr n m root S opn → Below w.heap.size w W → _) := Lib.hid (fun W hR hW => roffer_any base gr n m root S opn a.s a.A a.c a.p W hR (by omega) (HPP.out W hW) (by omega) QF.out.2.2.1 HSM.out)
      rw [hoe, hS'] at HVO HRO
      clear hoe hS' HKY'
      go_wp2_with fail
      refine wp_region_held_drew (S := fun W => Blk W wr.heap.size 48 #[.bool false, .int .i64 a.s.1, .int .i64 a.s.2, .slice a.A a.p.length a.c]) (by kernel_rfl) (HS0.out) (fun hS0 => ?_)
      refine wpAnyH_take (i := 0) (v := ?_) rfl (by kernel_rfl) (by kernel_rfl) (by kernel_rfl) (fun _ _ _ h => h) (Or.inl ⟨by kernel_rfl, ?hy⟩) hS0 ?rest
      case hy => (intro W hSw; clear hSw; go_simp; with_reducible rfl)
      case rest =>
      refine wpAnyH_take (i := 1) (v := ?_) rfl (by kernel_rfl) (by kernel_rfl) (by kernel_rfl) (fun _ _ _ h => h) (Or.inl ⟨by kernel_rfl, ?hy⟩) hS0 ?rest
      case hy => (intro W hSw; clear hSw; go_simp; with_reducible rfl)
      case rest =>
      refine wpAnyH_take (i := 2) (v := ?_) rfl (by kernel_rfl) (by kernel_rfl) (by kernel_rfl) (fun _ _ _ h => h) (Or.inl ⟨by kernel_rfl, ?hy⟩) hS0 ?rest
      case hy => (intro W hSw; have z1 := hSw.of_cell (i := 1) rfl; have z2 := hSw.of_cell (i := 2) rfl; have z3 := hSw.of_cell (i := 3) rfl; have zl := hSw.lt; clear hSw; go_simp; with_reducible rfl)
      case rest =>
      refine wpAnyH_take (i := 3) (v := ?_) rfl (by kernel_rfl) (by kernel_rfl) (by kernel_rfl) (fun _ _ _ h => h) (Or.inl ⟨by kernel_rfl, ?hy⟩) hS0 ?rest
      case hy => (intro W hSw; clear hSw; go_simp; with_reducible rfl)
      case rest =>
      refine wpAnyH_take (i := 4) (v := ?_) rfl (by kernel_rfl) (by kernel_rfl) (by kernel_rfl) (fun _ _ _ h => h) (Or.inl ⟨by kernel_rfl, ?hy⟩) hS0 ?rest
      case hy => (intro W hSw; have z1 := hSw.of_cell (i := 1) rfl; have z2 := hSw.of_cell (i := 2) rfl; have z3 := hSw.of_cell (i := 3) rfl; have zl := hSw.lt; clear hSw; go_simp; with_reducible rfl)
      case rest =>
      refine wpAnyH_take (i := 6) (v := ?_) rfl (by kernel_rfl) (by kernel_rfl) (by kernel_rfl) (fun _ _ _ h => h) (Or.inl ⟨by kernel_rfl, ?hy⟩) hS0 ?rest
      case hy => (intro W hSw; clear hSw; go_simp; with_reducible rfl)
      case rest =>
      try go_simp
      refine wpAnyH_take (i := 7) (v := ?_) rfl (by kernel_rfl) (by kernel_rfl) (by kernel_rfl) (fun _ _ _ h => h) (Or.inl ⟨by kernel_rfl, ?hy⟩) hS0 ?rest
      case hy => (intro W hSw; clear hSw; go_simp; with_reducible rfl)
      case rest =>
      refine wpAnyH_take (i := 8) (v := ?_) rfl (by kernel_rfl) (by kernel_rfl) (by kernel_rfl) (fun _ _ _ h => h) (Or.inl ⟨by kernel_rfl, ?hy⟩) hS0 ?rest
      case hy => (intro W hSw; have z1 := hSw.of_cell (i := 1) rfl; have z2 := hSw.of_cell (i := 2) rfl; have z3 := hSw.of_cell (i := 3) rfl; have zl := hSw.lt; clear hSw; go_simp; with_reducible rfl)
      case rest =>
      refine wpAnyH_take (i := 9) (v := ?_) rfl (by kernel_rfl) (by kernel_rfl) (by kernel_rfl) (fun _ _ _ h => h) (Or.inl ⟨by kernel_rfl, ?hy⟩) hS0 ?rest
      case hy => (intro W hSw; clear hSw; go_simp; with_reducible rfl)
      case rest =>
      refine wpAnyH_take (i := 10) (v := ?_) rfl (by kernel_rfl) (by kernel_rfl) (by kernel_rfl) (fun _ _ _ h => h) (Or.inl ⟨by kernel_rfl, ?hy⟩) hS0 ?rest
      case hy => (intro W hSw; have z1 := hSw.of_cell (i := 1) rfl; have z2 := hSw.of_cell (i := 2) rfl; have z3 := hSw.of_cell (i := 3) rfl; have zl := hSw.lt; clear hSw; go_simp; with_reducible rfl)
      case rest =>
      refine wpAnyH_ready (rs := [5]) (by kernel_rfl) (by simp) ?_
      refine AllReadyH.cons rfl (fun K hK => ?_) (AllReadyH.nil)
      go_simp
      refine (HVO.out _ (HVR.out.below (below_alloc (Below.refl _ _) _).drew) HW10.out.drew).mono ?_
      rintro e wA ⟨rfl, hV, hc⟩
      have HVA := Lib.hid hV
      have HWA := Lib.hid (below_chg HW10.out.drew hc HGB.out)
      have HRA := Lib.hid ((HRR.out.below (below_alloc (Below.refl _ _) _).drew).chg hc (fun k hk => by have := HLT.out; simp only [List.mem_cons, List.not_mem_nil, or_false] at hk; rcases hk with rfl | rfl <;> omega))
      go_simp
      refine hK.out _ _ ((hc.block _ hS0.lt (fun hm => by have := HVR.out.lt; simp only [List.mem_cons, List.not_mem_nil, or_false] at hm; omega)).trans hS0) (fun hS1 => ?_)
      clear hK K hV hc hS0
      refine wpAnyH_ready (rs := [11]) (by kernel_rfl) (by simp) ?_
      refine AllReadyH.cons rfl (fun K hK => ?_) (AllReadyH.nil)
      go_simp
      refine (HRO.out _ HRA.out HWA.out).mono ?_
      rintro e wB ⟨rfl, hR, hb, hkp⟩
      have HRB := Lib.hid hR
      have HVB := Lib.hid (HVA.out.base hb HLT.out.1 HLT.out.2.1)
      have HWB := Lib.hid (HWA.out.trans (hb.mono HLT.out.2.2))
      go_simp
      refine hK.out _ _ (hkp _ _ _ hS1 (by decide) (by decide)) (fun hS2 => ?_)
      clear hK K hR hb hkp hS1
      refine wpAnyH_take (i := 12) (v := ?_) rfl (by kernel_rfl) (by kernel_rfl) (by kernel_rfl) (fun _ _ _ h => h) (Or.inl ⟨by kernel_rfl, ?hy⟩) hS2 ?rest
      case hy => (intro W hSw; clear hSw; go_simp; with_reducible rfl)
      case rest =>
      refine wpAnyH_done (by kernel_rfl) ?_ _
      clear hS2
      go_wp2
      go_roundw
      case rel => exact ⟨k + 1, S', opn, by omega, by go_num, HWB.out, HVB.out, HRB.out, HK2.out.1, by have := HK2.out.2; omega⟩
      case measure => simp [intOf]; omega
end

section
open Go.RowKit
set_option maxRecDepth 100000 in
set_option maxHeartbeats 64000000 in
theorem mref52_d (A : Option Addr) (c : Nat) (values : List Int) (secret need total : Int) (root : ByteArray) (D : Option Addr) (d : Nat) (steps : List Stp) (w : World) (hT : Tabs w) (hA : Ints w A values) (hvl : values.length ≤ 9223372036854775807) (hD : Stps w D steps) (hsl : steps.length ≤ 9223372036854775807) (hz0 : 20 < values.length) (hq0 : ¬ values.length = 1000) (hq1 : ¬ values.length = 1001) :
    Calls Tryz.prog 4 #[.slice A values.length c, .int .i64 secret, .int .i64 need, .int .i64 total, .string root, .slice D steps.length d] w fun e w' => e = .returned (.bool true) ∧ Below w.heap.size w w' := by
  have HH := Lib.hid (bhead_any w hT)
  have HT : Hid (∀ W, Below w.heap.size w W → Tabs W) := Lib.hid (fun W hW => hT.below hW)
  have HST : Hid (∀ W, Below w.heap.size w W → Stps W D steps) := Lib.hid (fun W hW => hD.below hW)
  obtain ⟨e1, he1⟩ : ∃ e : Int, (if mvOk values secret 1000000000 then 0 else 1) = e := ⟨_, rfl⟩
  obtain ⟨e2, he2⟩ : ∃ e : Int, (if mvOk values secret 1001000002 then 0 else 1) = e := ⟨_, rfl⟩
  have hl1 := mvL_len values secret 1000000000 1
  have hl2 := mvL_len values secret 1001000002 (-1)
  have HB1 : Hid (∀ W, Below w.heap.size w W → _) := Lib.hid (fun W hW => blind_any A c values secret W (hA.below hW) hvl (hT.below hW))
  have HB2 : Hid (∀ W, Below w.heap.size w W → _) := Lib.hid (fun W hW => rblind_any A c values secret W (hA.below hW) hvl)
  have HB3 : Hid (∀ W, Below w.heap.size w W → _) := Lib.hid (fun W hW => unblind_any A c values secret W (hA.below hW) hvl (hT.below hW))
  have HB4 : Hid (∀ W, Below w.heap.size w W → _) := Lib.hid (fun W hW => runblind_any A c values secret W (hA.below hW) hvl)
  unfold blL at HB1
  unfold unL at HB3
  rw [he1] at HB1 HB2
  rw [he2] at HB3 HB4
  generalize mvL values secret 1000000000 1 = la at *
  generalize mvL values secret 1001000002 (-1) = lb at *
  have HSA : Hid (∀ (W : World) (A B : Option Addr) (c d : Nat), Ints W A la → Ints W B la → Calls Tryz.prog 21 #[.slice A la.length c, .slice B la.length d] W fun e w' => e = .returned (.bool true) ∧ Below W.heap.size W w') := Lib.hid (fun W A B c d h1 h2 => by
    have := isame_any A B c d la la W h1 h2 (by omega) (by omega)
    rw [decide_eq_true rfl] at this
    exact this)
  have HSB : Hid (∀ (W : World) (A B : Option Addr) (c d : Nat), Ints W A lb → Ints W B lb → Calls Tryz.prog 21 #[.slice A lb.length c, .slice B lb.length d] W fun e w' => e = .returned (.bool true) ∧ Below W.heap.size W w') := Lib.hid (fun W A B c d h1 h2 => by
    have := isame_any A B c d lb lb W h1 h2 (by omega) (by omega)
    rw [decide_eq_true rfl] at this
    exact this)
  clear hT hA hD he1 he2 hl1 hl2
  have hdv : decide (20 < values.length) = true := decide_eq_true (by omega)
  have hiv : (20 : Int) < (values.length : Int) := by omega
  have hjv : decide ((20 : Int) < (values.length : Int)) = true := decide_eq_true hiv
  have hm1000 : ((values.length : Int) == 1000) = false := by simp; omega
  have hn1000 : ((values.length : Int) != 1000) = true := by simp; omega
  have hm1001 : ((values.length : Int) == 1001) = false := by simp; omega
  have hn1001 : ((values.length : Int) != 1001) = true := by simp; omega
  go_enter Tryz.func4, Tryz.ntmps4
  go_wp2_with fail
  refine (HH.out).mono ?_
  rintro e w1 ⟨rfl, hb⟩
  have HW1 := Lib.hid hb
  clear hb
  go_wp2
  go_ret
  exact ⟨rfl, HW1.out⟩
theorem mref52_walk (A : Option Addr) (c : Nat) (values : List Int) (secret need total : Int) (root : ByteArray) (D : Option Addr) (d : Nat) (steps : List Stp) (w : World) (hT : Tabs w) (hA : Ints w A values) (hvl : values.length ≤ 9223372036854775807) (hD : Stps w D steps) (hsl : steps.length ≤ 9223372036854775807) :
    Calls Tryz.prog 4 #[.slice A values.length c, .int .i64 secret, .int .i64 need, .int .i64 total, .string root, .slice D steps.length d] w fun e w' => e = .returned (.bool true) ∧ Below w.heap.size w w' := by
  by_cases hz0 : 20 < values.length
  · by_cases hq0 : values.length = 1000
    · exact mref52_b A c values secret need total root D d steps w hT hA hvl hD hsl hz0 hq0
    · by_cases hq1 : values.length = 1001
      · exact mref52_c A c values secret need total root D d steps w hT hA hvl hD hsl hz0 hq0 hq1
      · exact mref52_d A c values secret need total root D d steps w hT hA hvl hD hsl hz0 hq0 hq1
  · exact mref52_a A c values secret need total root D d steps w hT hA hvl hD hsl hz0
end

end Go.Proofs.YtdlgejofggbifaaGreatDoor
