/- Root of the program at all lists of shares. Root of the reference at all lists of shares. -/
import Derived.Test.YtbefcipeojahfaaGreatDoorShRt07
namespace Go.Proofs.YtbefcipeojahfaaGreatDoor

section
open Go.RowKit

def rootOk (l : List (Int × Int)) : Bool := decide (1 ≤ l.length ∧ l.length ≤ 16) && l.all validB
set_option maxHeartbeats 8000000 in
theorem sroot_bad (A : Option Addr) (c : Nat) (l : List (Int × Int)) (w : World) (hA : Prs w A l) (h1 : 1 ≤ l.length) (h16 : l.length ≤ 16) (hv : l.all validB = false) (hT : Tabs w) :
    Calls Tryz.prog 11 #[.slice A l.length c] w fun e w' => e = .returned (.tuple #[.string ByteArray.empty, .int .i64 1]) ∧ Below w.heap.size w w' := by
  have HA := Lib.hid hA
  have HT : Hid (∀ W, Below w.heap.size w W → Tabs W) := Lib.hid (fun W hW => hT.below hW)
  have HBAD := Lib.hid hv
  obtain ⟨ip, hj1, hy0, hy1, hy2⟩ := info_parts info_strg
  have HI := Lib.hid (And.intro hj1 (And.intro hy0 (And.intro hy1 hy2)))
  clear hj1 hy0 hy1 hy2 hA hv hT
  have HO : Hid (w.ownsRow w.heap.size 9 1 (.slice none 0 0) 0 []) := ⟨rfl, .inl ⟨rfl, rfl⟩⟩
  have hd1 : decide (l.length < 1) = false := decide_eq_false (by omega)
  have hd2 : decide (16 < l.length) = false := decide_eq_false (by omega)
  go_enter Tryz.func11, Tryz.ntmps11
  go_wp2_with fail
  go_loopw [4, 6, 17] (fun u4 _ u17 wr => ∃ k : Nat, k ≤ l.length ∧ u17 = .int .i64 k ∧ (l.take k).all validB = true ∧ Below w.heap.size w wr ∧ wr.ownsRow w.heap.size 9 1 u4 k (((l.take k).map shLf).map Value.string)) (fun _ _ u17 _ => l.length - (intOf u17).toNat)
  case atStart => exact ⟨0, Nat.zero_le _, rfl, rfl, Below.refl _ _, HO.out⟩
  case round =>
  obtain ⟨k, hk, rfl, hall, hbw, how⟩ := hrel
  have HALL := Lib.hid hall
  clear hall
  have HBW := Lib.hid hbw
  have HOW := Lib.hid how
  clear hbw how
  by_cases hlt : k < l.length
  · obtain ⟨s, hs⟩ := get_some l k hlt
    obtain ⟨b, off, rfl, hc1, hc2⟩ := (HA.out.below HBW.out).at_ hs
    have hcl := lt_of_cell hc1
    cases hvs : validB s
    case false =>
      have HV := Lib.hid hvs
      clear hvs hs
      go_wp2_with fail
      refine (valid_any s.1 s.2 _).mono ?_
      rintro e w' ⟨rfl, rfl⟩
      rw [HV.out]
      go_wp2
      go_ret2
      exact ⟨rfl, below_alloc (below_alloc HBW.out _) _⟩
    case true =>
    obtain ⟨g1, g2⟩ := valid_nat hvs
    have HV := Lib.hid hvs
    have HTX : Hid (∀ W, Below w.heap.size w W → Calls Tryz.prog 35 #[.agg #[.int .i64 s.1, .int .i64 s.2]] W fun e w' => e = .returned (.string (shT s)) ∧ Below W.heap.size W w') := Lib.hid (fun W hW => stext_any s W ⟨by omega, by omega⟩ ⟨by omega, by omega⟩ (HT.out W hW))
    have HLF : Hid (∀ W, Below w.heap.size w W → Calls Tryz.prog 34 #[.string (shT s)] W fun e w' => e = .returned (.string (lf (shT s))) ∧ Below W.heap.size W w') := Lib.hid (fun W hW => leaf_any (shT s) (shT_sm hvs) W (HT.out W hW))
    have HS := Lib.hid hs
    clear hs hvs
    obtain ⟨y, hy⟩ : ∃ y, shLf s = y := ⟨_, rfl⟩
    have HY := Lib.hid hy
    unfold shLf at hy
    rw [hy] at HLF
    clear hy
    generalize shT s = ts at *
    go_wp2_with fail
    refine (valid_any s.1 s.2 _).mono ?_
    rintro e w' ⟨rfl, rfl⟩
    rw [HV.out]
    go_wp2_with fail
    refine (HTX.out _ (below_alloc (below_alloc HBW.out _) _)).mono ?_
    rintro e w1 ⟨rfl, hb1⟩
    have HB1 := Lib.hid (below_trans (below_alloc (below_alloc HBW.out _) _) hb1)
    have HO1 := Lib.hid (row_below (row_below (row_below HOW.out (below_alloc (Below.refl _ _) (.cells #[.int .i64 s.1, .int .i64 s.2] 25))) (below_alloc (Below.refl _ _) (.cells #[.int .i64 s.1, .int .i64 s.2] 25))) hb1)
    clear hb1
    go_wp2_with fail
    refine (HLF.out w1 HB1.out).mono ?_
    rintro e w2 ⟨rfl, hb2⟩
    have HB2 := Lib.hid (below_trans HB1.out hb2)
    have HO2 : Hid ((w2.alloc (.cells #[.string y] 9)).ownsRow w.heap.size 9 1 u4 k (((l.take k).map shLf).map Value.string)) := Lib.hid (row_below (row_below HO1.out hb2) (below_alloc (Below.refl _ _) _))
    clear hb2
    go_wp2_with (at_builtin; refine wpList_app _ rfl (.tmp 24) (.tmp 28) 26 26 rfl w.heap.size 9 9 ip _ 1 16 Tryz.underlying26 Tryz.underlying26 HI.out.1 HI.out.2.1 HI.out.2.2.1 HI.out.2.2.2 rfl (by omega) u4 k _ rfl HO2.out (some ⟨w2.heap.size, 0, none⟩) 1 1 [.string y] rfl (Rd_new w2 #[.string y] _ 1 1 _ rfl rfl) (by simp [Value.oneCell']) (by simp only [maxLen]; omega) (by omega) (by have := HB2.out.size; simp; omega) ?_)
    intro v4 w4 hown4 hg4
    have HB4 : Hid (Below w.heap.size w w4) := Lib.hid ((below_alloc HB2.out _).grown hg4 (by have := HB2.out.size; simp; omega) (fun j hj => (HO2.out.lt j hj).1))
    have HO4 := Lib.hid hown4
    clear hown4 hg4
    go_wp2
    go_roundw
    case rel => exact ⟨k + 1, by omega, by go_num, by rw [all_take_succ _ _ _ _ HS.out, HALL.out, HV.out]; rfl, HB4.out, by rw [take_snoc _ _ _ HS.out]; simpa [HY.out] using HO4.out⟩
    case measure => simp [intOf]; omega
  · exfalso
    obtain rfl : k = l.length := by omega
    have := HALL.out
    rw [List.take_length, HBAD.out] at this
    cases this
set_option maxHeartbeats 8000000 in
theorem sroot_all (A : Option Addr) (c : Nat) (l : List (Int × Int)) (w : World) (hA : Prs w A l) (hmax : l.length ≤ 9223372036854775807) (hT : Tabs w) :
    Calls Tryz.prog 11 #[.slice A l.length c] w fun e w' => e = .returned (.tuple #[.string (if rootOk l then rt (l.map shLf) else ByteArray.empty), .int .i64 (if rootOk l then 0 else 1)]) ∧ Below w.heap.size w w' := by
  by_cases hlen : 1 ≤ l.length ∧ l.length ≤ 16
  · cases hv : l.all validB
    · have e : rootOk l = false := by unfold rootOk; rw [hv, Bool.and_false]
      rw [e]
      exact sroot_bad A c l w hA hlen.1 hlen.2 hv hT
    · have e : rootOk l = true := by unfold rootOk; rw [hv, decide_eq_true hlen]; rfl
      rw [e]
      exact sroot_any A c l w hA hlen.1 hlen.2 hv hT
  · have e : rootOk l = false := by unfold rootOk; rw [decide_eq_false hlen]; rfl
    rw [e]
    clear hA hT e
    by_cases h1 : 1 ≤ l.length
    · have hd1 : decide (l.length < 1) = false := decide_eq_false (by omega)
      have hd2 : decide (16 < l.length) = true := decide_eq_true (by omega)
      have hi : (16 : Int) < (l.length : Int) := by omega
      go_enter Tryz.func11, Tryz.ntmps11
      go_wp2
      go_ret2
      exact ⟨rfl, Below.refl _ _⟩
    · have hd1 : decide (l.length < 1) = true := decide_eq_true (by omega)
      have hi : (l.length : Int) < 1 := by omega
      go_enter Tryz.func11, Tryz.ntmps11
      go_wp2
      go_ret2
      exact ⟨rfl, Below.refl _ _⟩
end

section
open Go.RowKit

set_option maxRecDepth 100000 in
set_option maxHeartbeats 8000000 in
theorem r7root_all (A : Option Addr) (c : Nat) (l : List (Int × Int)) (w : World) (hA : Prs w A l) (hmax : l.length ≤ 9223372036854775807) :
    Calls Tryz.prog 12 #[.slice A l.length c] w fun e w' => e = .returned (.tuple #[.string (if rootOk l then rt (l.map shLf) else ByteArray.empty), .int .i64 (if rootOk l then 0 else 1)]) ∧ Below w.heap.size w w' := by
  by_cases h1 : 1 ≤ l.length
  case neg =>
    have e : rootOk l = false := by unfold rootOk; rw [decide_eq_false (by omega)]; rfl
    rw [e]
    clear hA e
    have hd1 : decide (l.length < 1) = true := decide_eq_true (by omega)
    have hi : (l.length : Int) < 1 := by omega
    go_enter Tryz.func12, Tryz.ntmps12
    go_wp2
    go_ret2
    exact ⟨rfl, Below.refl _ _⟩
  case pos =>
  by_cases h16 : l.length ≤ 16
  case neg =>
    have e : rootOk l = false := by unfold rootOk; rw [decide_eq_false (by omega)]; rfl
    rw [e]
    clear hA e
    have hd1 : decide (l.length < 1) = false := decide_eq_false (by omega)
    have hd2 : decide (16 < l.length) = true := decide_eq_true (by omega)
    have hi : (16 : Int) < (l.length : Int) := by omega
    go_enter Tryz.func12, Tryz.ntmps12
    go_wp2
    go_ret2
    exact ⟨rfl, Below.refl _ _⟩
  case pos =>
  obtain ⟨v, hv⟩ : ∃ v, l.all validB = v := ⟨_, rfl⟩
  have hok : rootOk l = v := by unfold rootOk; rw [hv, decide_eq_true ⟨h1, h16⟩, Bool.true_and]
  rw [hok]
  have HA := Lib.hid hA
  have HV := Lib.hid hv
  have hd1 : decide (l.length < 1) = false := decide_eq_false (by omega)
  have hd2 : decide (16 < l.length) = false := decide_eq_false (by omega)
  have hd3 : decide ((l.length : Int) < 1) = false := decide_eq_false (by omega)
  have hd4 : decide ((16 : Int) < (l.length : Int)) = false := decide_eq_false (by omega)
  clear hA hok hv
  go_enter Tryz.func12, Tryz.ntmps12
  go_wp2_with fail
  go_loopw [4] (fun u4 wr => ∃ k : Nat, k ≤ l.length ∧ u4 = .int .i64 k ∧ (l.take k).all validB = true ∧ Below w.heap.size w wr) (fun u4 _ => l.length - (intOf u4).toNat)
  case atStart => exact ⟨0, Nat.zero_le _, rfl, rfl, Below.refl _ _⟩
  case round =>
  obtain ⟨k, hk, rfl, hall, hbw⟩ := hrel
  have HALL := Lib.hid hall
  have HBW := Lib.hid hbw
  clear hall hbw
  by_cases hlt : k < l.length
  case pos =>
    obtain ⟨s, hs⟩ := get_some l k hlt
    obtain ⟨b, off, rfl, hc1, hc2⟩ := (HA.out.below HBW.out).at_ hs
    have hcl := lt_of_cell hc1
    have HS := Lib.hid hs
    clear hs
    cases hvs : validB s
    case false =>
      have HVS := Lib.hid hvs
      have hvf : v = false := by rw [← HV.out]; exact all_false_of validB l k s HS.out hvs
      clear hvs
      subst hvf
      go_wp2_with fail
      refine (rvalid_any s.1 s.2 _).mono ?_
      rintro e w' ⟨rfl, rfl⟩
      rw [HVS.out]
      go_wp2
      go_ret2
      exact ⟨rfl, below_alloc HBW.out _⟩
    case true =>
      have HVS := Lib.hid hvs
      clear hvs
      go_wp2_with fail
      refine (rvalid_any s.1 s.2 _).mono ?_
      rintro e w' ⟨rfl, rfl⟩
      rw [HVS.out]
      go_wp2
      go_roundw
      case rel => exact ⟨k + 1, by omega, by go_num, by rw [all_take_succ _ _ _ _ HS.out, HALL.out, HVS.out]; rfl, below_alloc HBW.out _⟩
      case measure => simp [intOf]; omega
  case neg =>
  obtain rfl : k = l.length := by omega
  have hvt : v = true := by rw [← HV.out]; have := HALL.out; rwa [List.take_length] at this
  subst hvt
  have HLE := Lib.hid (rleaves_any A c l wr (HA.out.below HBW.out) (by omega) HV.out)
  have HRR := Lib.hid (fun (W : World) (A' : Option Addr) (c' : Nat) (h2 : l.length ≤ c') (h3 : Strs W A' (l.map shLf)) => rRoot_any A' c' (l.map shLf) W (by rw [List.length_map]; omega) (by rw [List.length_map]; exact h2) h3 (shLf_sm l))
  rw [shLf_D, if_pos rfl, if_pos rfl, List.length_map] at HRR
  go_wp2_with fail
  refine HLE.out.mono ?_
  rintro e w2 ⟨v2, rfl, ho, hb⟩
  have HB2 := Lib.hid (below_trans HBW.out hb)
  obtain ⟨A2, c2, rfl, hc2, -, hr2⟩ := Rd.of_own ho
  have HR2 := Lib.hid (HRR.out w2 A2 c2 hc2 (by unfold Strs; rw [List.length_map]; exact hr2))
  clear ho hb hr2
  go_wp2_with fail
  refine HR2.out.mono ?_
  rintro e w3 ⟨rfl, hb⟩
  have HB3 := Lib.hid (below_trans HB2.out hb)
  clear hb
  go_wp2
  go_ret2
  exact ⟨rfl, HB3.out⟩
end

end Go.Proofs.YtbefcipeojahfaaGreatDoor
