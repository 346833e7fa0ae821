/- observatorylaw02: rooted, few, good. -/
import Derived.Test.YtfmlhlliephlhaaDoorTreePt02
import Derived.Test.YtfmlhlliephlhaaDoorRef04
namespace Go.Proofs.YtfmlhlliephlhaaDoor
open Go.RowKit

theorem is_all (t : ByteArray) (w : World) : Calls Tryd.prog 24 #[.string t] w fun e w' => e = .returned (.bool (isD t)) ∧ Below w.heap.size w w' := by
  by_cases h16 : t.size = 16
  · exact is_any t w (by omega)
  · have hres : isD t = false := by rw [isD, decide_eq_false h16]; rfl
    have HR := Lib.hid hres
    have e1 : ((t.size : Int) == 16) = false := by simp; omega
    clear hres h16
    go_enter Tryd.func24, Tryd.ntmps24
    go_wp2
    go_ret
    rw [HR.out]
    exact ⟨rfl, Below.refl _ _⟩

def lfew (l : List ByteArray) : Bool := decide (l.length ≤ 20) && fewB l 100
def lgood (l : List ByteArray) : Bool := allD l && lfew l

theorem lfew_any (A : Option Addr) (c : Nat) (l : List ByteArray) (w : World) (h : Strs w A l) (hl : l.length ≤ 9223372036854775807) :
    Calls Tryd.prog 13 #[.slice A l.length c] w fun e w' => e = .returned (.bool (lfew l)) ∧ w = w' := by
  have HF := Lib.hid (few_any A c l 100 w h hl)
  clear h
  unfold lfew
  by_cases h20 : l.length ≤ 20
  · have hi : (l.length : Int) ≤ 20 := by omega
    rw [decide_eq_true h20, Bool.true_and]
    go_enter Tryd.func13, Tryd.ntmps13
    go_wp2_with fail
    refine HF.out.mono ?_
    rintro e _ ⟨rfl, rfl⟩
    go_wp2
    go_ret
    exact ⟨rfl, rfl⟩
  · have hi : ¬ (l.length : Int) ≤ 20 := by omega
    rw [decide_eq_false h20, Bool.false_and]
    go_enter Tryd.func13, Tryd.ntmps13
    go_wp2
    go_ret
    exact ⟨rfl, rfl⟩

set_option maxHeartbeats 4000000 in
theorem lgood_any (A : Option Addr) (c : Nat) (l : List ByteArray) (w : World) (h : Strs w A l) (hl : l.length ≤ 9223372036854775807) :
    Calls Tryd.prog 9 #[.slice A l.length c] w fun e w' => e = .returned (.bool (lgood l)) ∧ Below w.heap.size w w' := by
  have HS := Lib.hid h
  have HFW := Lib.hid (fun W (hW : Below w.heap.size w W) => lfew_any A c l W (h.below hW) hl)
  clear h
  go_enter Tryd.func9, Tryd.ntmps9
  go_wp2_with fail
  go_loopw [3] (fun u3 wr => ∃ k : Nat, k ≤ l.length ∧ u3 = .int .i64 k ∧ allD (l.take k) = true ∧ Below w.heap.size w wr) (fun u3 _ => l.length - (intOf u3).toNat)
  case atStart => exact ⟨0, Nat.zero_le _, rfl, rfl, Below.refl _ _⟩
  case round =>
    obtain ⟨k, hk, rfl, hall, hb⟩ := hrel
    have HALL := Lib.hid hall
    have HB := Lib.hid hb
    clear hall hb
    by_cases hlt : k < l.length
    · obtain ⟨s, hs⟩ := get_some l k hlt
      obtain ⟨b, off, rfl, c0⟩ := (HS.out.below HB.out).at_ hs
      have c0l := lt_of_cell c0
      have HC := Lib.hid (is_all s wr)
      have hall2 : allD (l.take (k + 1)) = isD s := by
        have := all_take_succ isD l k s hs
        unfold allD at HALL ⊢
        rw [this, HALL.out, Bool.true_and]
      have HA2 := Lib.hid hall2
      have hmem : s ∈ l := List.mem_of_getElem? hs
      have hbad : isD s = false → lgood l = false := fun h => by
        have : allD l = false := by
          unfold allD
          rw [List.all_eq_false]
          exact ⟨s, hmem, by simp [h]⟩
        rw [lgood, this]; rfl
      have HBAD := Lib.hid hbad
      clear hs hall2 hbad hmem
      obtain ⟨v, hv⟩ : ∃ v, isD s = v := ⟨_, rfl⟩
      rw [hv] at HC HA2 HBAD
      clear hv
      cases v with
      | true =>
        go_wp2_with fail
        refine HC.out.mono ?_
        rintro e w1 ⟨rfl, hb1⟩
        have HB1 := Lib.hid (below_trans HB.out hb1)
        clear hb1
        go_wp2
        go_roundw
        case rel => exact ⟨k + 1, by omega, by go_num, HA2.out, HB1.out⟩
        case measure => simp [intOf]; omega
      | false =>
        have hbad := HBAD.out rfl
        have HBD := Lib.hid hbad
        clear hbad HBAD HA2
        go_wp2_with fail
        refine HC.out.mono ?_
        rintro e w1 ⟨rfl, hb1⟩
        have HB1 := Lib.hid (below_trans HB.out hb1)
        clear hb1
        go_wp2
        go_ret
        exact ⟨ret_bool HBD.out.symm, HB1.out⟩
    · obtain rfl : k = l.length := by omega
      rw [List.take_length] at HALL
      have hg : lgood l = lfew l := by rw [lgood, HALL.out, Bool.true_and]
      have HG := Lib.hid hg
      have HF := Lib.hid (HFW.out wr HB.out)
      clear hg HFW
      go_wp2_with fail
      refine HF.out.mono ?_
      rintro e _ ⟨rfl, rfl⟩
      go_wp2
      go_ret
      exact ⟨ret_bool HG.out.symm, HB.out⟩

theorem rooted_any (A : Option Addr) (c : Nat) (l : List ByteArray) (w : World) (hbig : l.length ≤ 1000000) (hcap : l.length ≤ c) (hS : Strs w A l) (hsm : sm l) (hT : Tabs w) :
    Calls Tryd.prog 10 #[.slice A l.length c] w fun e w' => e = .returned (.string (if allD l then rt l else ByteArray.empty)) ∧ Below w.heap.size w w' := by
  have HR := Lib.hid (root_any A c l w hbig hcap hS hsm hT)
  clear hS hsm hT
  cases hv : allD l
  all_goals
    rw [hv] at HR
    clear hv
    simp only [Bool.false_eq_true, if_false, if_true] at HR ⊢
    go_enter Tryd.func10, Tryd.ntmps10
    go_wp2_with fail
    refine HR.out.mono ?_
    rintro e w1 ⟨rfl, hb1⟩
    have HB1 := Lib.hid hb1
    clear hb1
    go_wp2
    go_ret
    exact ⟨rfl, HB1.out⟩

theorem lgood_eq {l : List ByteArray} (h : lgood l = true) : allD l = true ∧ l.length ≤ 20 ∧ sm l := by
  simp only [lgood, lfew, Bool.and_eq_true, decide_eq_true_eq] at h
  refine ⟨h.1, h.2.1, fun s hs => ?_⟩
  have := h.1
  simp only [allD, List.all_eq_true] at this
  rw [isD_16 (this s hs)]; omega

end Go.Proofs.YtfmlhlliephlhaaDoor
