/- The examples of observatorylaw02.head: plain facts. -/
import Derived.Test.YtfmlhlliephlhaaGreatDoorTreeCk02
import Derived.Test.YtfmlhlliephlhaaGreatDoorPureT03
namespace Go.Proofs.YtfmlhlliephlhaaGreatDoor
open Go.RowKit

theorem hf3 : hf 3 = 2 := hf_eq 3 1 (.inl (by decide)) (by decide)
theorem hf2 : hf 2 = 1 := hf_eq 2 0 (.inr rfl) (by decide)
section
variable (a b c : ByteArray)
theorem rt2 : rt [a, b] = nd a b := by
  rw [rt_split [a, b] 1 (by simp) (by exact hf2)]
  simp only [List.take_succ_cons, List.take_zero, List.drop_succ_cons, List.drop_zero, rt_one]
theorem rt3 : rt [a, b, c] = nd (nd a b) c := by
  rw [rt_split [a, b, c] 2 (by simp) (by exact hf3)]
  simp only [List.take_succ_cons, List.take_zero, List.drop_succ_cons, List.drop_zero, rt_one, rt2]
theorem pt32 : pt [a, b, c] 2 = [nd a b] := by
  rw [pt_ge _ _ (by simp) (by show ¬ 2 < hf 3; rw [hf3]; omega)]
  show pt (List.drop (hf 3) [a, b, c]) (2 - hf 3) ++ [rt (List.take (hf 3) [a, b, c])] = _
  rw [hf3, pt_one _ _ (by simp)]
  simp only [List.take_succ_cons, List.take_zero, rt2, List.nil_append]
theorem pt20 : pt [a, b] 0 = [b] := by
  rw [pt_lt _ _ (by simp) (by show 0 < hf 2; rw [hf2]; omega)]
  show pt (List.take (hf 2) [a, b]) 0 ++ [rt (List.drop (hf 2) [a, b])] = _
  rw [hf2, pt_one _ _ (by simp)]
  simp only [List.drop_succ_cons, List.drop_zero, rt_one, List.nil_append]
theorem pt30 : pt [a, b, c] 0 = [b, c] := by
  rw [pt_lt _ _ (by simp) (by show 0 < hf 3; rw [hf3]; omega)]
  show pt (List.take (hf 3) [a, b, c]) 0 ++ [rt (List.drop (hf 3) [a, b, c])] = _
  rw [hf3]
  simp only [List.take_succ_cons, List.take_zero, List.drop_succ_cons, List.drop_zero, rt_one, pt20, List.cons_append, List.nil_append]
theorem lk32 : lk [a, b, c] 2 true = [c] := by
  rw [lk_le _ _ _ (by simp) (by simp) (by show 2 ≤ hf 3; rw [hf3]; omega)]
  show lk (List.take (hf 3) [a, b, c]) 2 true ++ [rt (List.drop (hf 3) [a, b, c])] = _
  rw [hf3, lk_end _ _ _ (by simp)]
  simp only [List.drop_succ_cons, List.drop_zero, rt_one, if_true, List.nil_append]
theorem lk21 : lk [a, b] 1 true = [b] := by
  rw [lk_le _ _ _ (by simp) (by simp) (by show 1 ≤ hf 2; rw [hf2]; omega)]
  show lk (List.take (hf 2) [a, b]) 1 true ++ [rt (List.drop (hf 2) [a, b])] = _
  rw [hf2, lk_end _ _ _ (by simp)]
  simp only [List.drop_succ_cons, List.drop_zero, rt_one, if_true, List.nil_append]
theorem lk31 : lk [a, b, c] 1 true = [b, c] := by
  rw [lk_le _ _ _ (by simp) (by simp) (by show 1 ≤ hf 3; rw [hf3]; omega)]
  show lk (List.take (hf 3) [a, b, c]) 1 true ++ [rt (List.drop (hf 3) [a, b, c])] = _
  rw [hf3]
  simp only [List.take_succ_cons, List.take_zero, List.drop_succ_cons, List.drop_zero, rt_one, lk21, List.cons_append, List.nil_append]
theorem up32 (s : ByteArray) : upv 3 2 s [nd a b] = nd (nd a b) s := by
  rw [upv_ge _ _ _ _ (by omega) (by rw [hf3]; omega), hf3, upv_one _ _ _ _ (by omega)]
  rfl
theorem pl32 : plen 3 2 = 1 := by
  rw [plen_ge _ _ (by omega) (by rw [hf3]; omega), hf3, plen_one _ _ (by omega)]
theorem bo31 (o : ByteArray) : bothv 3 1 true o [b, c] = (o, nd (nd o b) c) := by
  rw [bothv_le _ _ _ _ _ (by omega) (by omega) (by rw [hf3]; omega), hf3]
  show ((bothv 2 1 true o [b]).1, nd (bothv 2 1 true o [b]).2 c) = _
  rw [bothv_le _ _ _ _ _ (by omega) (by omega) (by rw [hf2]; omega), hf2, bothv_end _ _ _ _ _ (by omega), if_pos rfl]
  rfl
theorem ll31 : llen 3 1 true = 2 := by
  rw [llen_le _ _ _ (by omega) (by omega) (by rw [hf3]; omega), hf3, llen_le _ _ _ (by omega) (by omega) (by rw [hf2]; omega), hf2, llen_end _ _ _ (by omega), if_pos rfl]
end

def xa : ByteArray := lf ⟨#[97]⟩
def xb : ByteArray := lf ⟨#[98]⟩
def xc : ByteArray := lf ⟨#[99]⟩
theorem ne1 : nd (nd xa xb) xb ≠ nd (nd xa xb) xc := fun h => absurd (decide_eq_true h) (by rw [show decide (nd (nd xa xb) xb = nd (nd xa xb) xc) = false from by kernel_rfl]; simp)
theorem ne2 : nd (nd xb xb) xc ≠ nd (nd xa xb) xc := fun h => absurd (decide_eq_true h) (by rw [show decide (nd (nd xb xb) xc = nd (nd xa xb) xc) = false from by kernel_rfl]; simp)
theorem isD_lf (s : ByteArray) : isD (lf s) = true := isD_dg _
theorem chk1 : chkB (nd (nd xa xb) xc) 3 2 xc [nd xa xb] = true := by
  unfold chkB
  show (decide ((3 : Int) ≤ 1000000 ∧ (0 : Int) ≤ 2 ∧ (2 : Int) < 3) && allD [nd xa xb] && isD xc && (decide (upv 3 2 xc [nd xa xb] = nd (nd xa xb) xc) && decide ([nd xa xb].length = plen 3 2))) = true
  rw [up32, pl32]
  simp [allD, isD_nd, show isD xc = true from isD_lf _]
theorem chk2 : chkB (nd (nd xa xb) xc) 3 2 xb [nd xa xb] = false := by
  unfold chkB
  show (decide ((3 : Int) ≤ 1000000 ∧ (0 : Int) ≤ 2 ∧ (2 : Int) < 3) && allD [nd xa xb] && isD xb && (decide (upv 3 2 xb [nd xa xb] = nd (nd xa xb) xc) && decide ([nd xa xb].length = plen 3 2))) = false
  rw [up32, decide_eq_false ne1]
  simp

end Go.Proofs.YtfmlhlliephlhaaGreatDoor
