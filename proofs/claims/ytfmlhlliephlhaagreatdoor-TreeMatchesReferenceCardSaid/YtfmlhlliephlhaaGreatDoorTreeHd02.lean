/- observatorylaw02: rooted, few, good. -/
import Derived.Test.YtfmlhlliephlhaaGreatDoorTreePt02
import Derived.Test.YtfmlhlliephlhaaGreatDoorRef04
namespace Go.Proofs.YtfmlhlliephlhaaGreatDoor
open Go.RowKit

theorem is_all (t : ByteArray) (w : World) : Calls Tryz.prog 32 #[.string t] w fun e w' => e = .returned (.bool (isD t)) ∧ Below w.heap.size w w' := by
  by_cases h16 : t.size = 16
  · exact is_any t w (by omega)
  · have hres : isD t = false := by rw [isD, decide_eq_false h16]; rfl
    have HR := Lib.hid hres
    have e1 : ((t.size : Int) == 16) = false := by simp; omega
    clear hres h16
    go_enter Tryz.func32, Tryz.ntmps32
    go_wp2
    go_ret
    rw [HR.out]
    exact ⟨rfl, Below.refl _ _⟩

def lfew (l : List ByteArray) : Bool := decide (l.length ≤ 20) && fewB l 100
def lgood (l : List ByteArray) : Bool := allD l && lfew l

theorem lfew_any (A : Option Addr) (c : Nat) (l : List ByteArray) (w : World) (h : Strs w A l) (hl : l.length ≤ 9223372036854775807) :
    Calls Tryz.prog 5 #[.slice A l.length c] w fun e w' => e = .returned (.bool (lfew l)) ∧ w = w' := by
  have HF := Lib.hid (few_any A c l 100 w h hl)
  clear h
  unfold lfew
  by_cases h20 : l.length ≤ 20
  · have hi : (l.length : Int) ≤ 20 := by omega
    rw [decide_eq_true h20, Bool.true_and]
    go_enter Tryz.func5, Tryz.ntmps5
    go_wp2_with fail
    refine HF.out.mono ?_
    rintro e _ ⟨rfl, rfl⟩
    go_wp2
    go_ret
    exact ⟨rfl, rfl⟩
  · have hi : ¬ (l.length : Int) ≤ 20 := by omega
    rw [decide_eq_false h20, Bool.false_and]
    go_enter Tryz.func5, Tryz.ntmps5
    go_wp2
    go_ret
    exact ⟨rfl, rfl⟩

theorem rooted_any (A : Option Addr) (c : Nat) (l : List ByteArray) (w : World) (hbig : l.length ≤ 1000000) (hcap : l.length ≤ c) (hS : Strs w A l) (hsm : sm l) (hT : Tabs w) :
    Calls Tryz.prog 20 #[.slice A l.length c] w fun e w' => e = .returned (.string (if allD l then rt l else ByteArray.empty)) ∧ Below w.heap.size w w' := by
  have HR := Lib.hid (root_any A c l w hbig hcap hS hsm hT)
  clear hS hsm hT
  cases hv : allD l
  all_goals
    rw [hv] at HR
    clear hv
    simp only [Bool.false_eq_true, if_false, if_true] at HR ⊢
    go_enter Tryz.func20, Tryz.ntmps20
    go_wp2_with fail
    refine HR.out.mono ?_
    rintro e w1 ⟨rfl, hb1⟩
    have HB1 := Lib.hid hb1
    clear hb1
    go_wp2
    go_ret
    exact ⟨rfl, HB1.out⟩

theorem lgood_eq {l : List ByteArray} (h : lgood l = true) : allD l = true ∧ l.length ≤ 20 ∧ sm l := by
  simp only [lgood, lfew, Bool.and_eq_true, decide_eq_true_eq] at h
  refine ⟨h.1, h.2.1, fun s hs => ?_⟩
  have := h.1
  simp only [allD, List.all_eq_true] at this
  rw [isD_16 (this s hs)]; omega

end Go.Proofs.YtfmlhlliephlhaaGreatDoor
