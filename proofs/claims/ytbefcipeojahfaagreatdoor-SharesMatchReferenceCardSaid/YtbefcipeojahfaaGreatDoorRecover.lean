/- The law SharesRecover: its walk. -/
import Derived.Test.YtbefcipeojahfaaGreatDoorHead07
namespace Go.Proofs.YtbefcipeojahfaaGreatDoor
open Go.RowKit

theorem evp_zero (a : Int) (l : List Int) (h : elemB a = true) : evp (a :: l) 0 = a := by
  have := (elemB_iff a).1 h
  simp only [evp]; omega

theorem elemB_mod (a : Int) : elemB (a % 2147483647) = true := by rw [elemB_iff]; omega

/-- The shares of a polynomial lie on it. -/
theorem shs_on (p : List Int) (m : Nat) (hm : m ≤ 16) : On p (shs p m) := by
  refine ⟨fun s hs => ?_, fun s hs => ?_, ?_⟩
  · obtain ⟨i, hi, rfl⟩ := List.mem_map.1 hs
    have := List.mem_range.1 hi
    simp only; omega
  · obtain ⟨i, hi, rfl⟩ := List.mem_map.1 hs
    rfl
  · have e : (shs p m).map (·.1) = (List.range m).map fun (i : Nat) => (i : Int) + 1 := by simp [shs]
    rw [e]
    refine List.pairwise_map.2 (List.Pairwise.imp ?_ List.nodup_range)
    intro a b hab h
    exact hab (by omega)

theorem On.reverse {p : List Int} {l : List (Int × Int)} (h : On p l) : On p l.reverse :=
  ⟨fun s hs => h.place s (by simpa using hs), fun s hs => h.value s (by simpa using hs), by rw [List.map_reverse]; exact (List.reverse_perm _).nodup_iff.2 h.nodup⟩



end Go.Proofs.YtbefcipeojahfaaGreatDoor
