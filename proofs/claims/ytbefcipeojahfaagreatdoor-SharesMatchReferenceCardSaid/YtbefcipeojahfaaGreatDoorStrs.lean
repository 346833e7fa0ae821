/- A slice of strings. (XCont55 has the same words for the disk's seats.) -/
import Derived.Test.YtbefcipeojahfaaGreatDoorChg
namespace Go.Proofs.YtbefcipeojahfaaGreatDoor
open Go.RowKit

def Strs (w : World) (A : Option Addr) (xs : List ByteArray) : Prop := Rd w 1 A xs.length (xs.map Value.string)

theorem Strs.below {w w' : World} {A : Option Addr} {xs : List ByteArray} (h : Strs w A xs) (hb : Below w.heap.size w w') : Strs w' A xs := Rd.below h hb

theorem Strs.at_ {w : World} {A : Option Addr} {xs : List ByteArray} (h : Strs w A xs) {k : Nat} {x : ByteArray} (hk : xs[k]? = some x) :
    ∃ b off, A = some ⟨b, off, none⟩ ∧ w.cell? ⟨b, off + k, none⟩ = some (.string x) := by
  have hl : k < xs.length := (List.getElem?_eq_some_iff.1 hk).1
  obtain ⟨b, off, e, hc⟩ := h.2 (by omega)
  exact ⟨b, off, e, hc k _ (by simp [hk])⟩

theorem Strs_new (w : World) (cs : Array Value) (T g : Nat) (l : List ByteArray) (h : cs.toList = l.map Value.string) (hg : g = w.heap.size) : Strs (w.alloc (.cells cs T)) (some ⟨g, 0, none⟩) l := by
  unfold Strs
  rw [← h]
  exact Rd_new w cs T 1 l.length g (by rw [← Array.length_toList, h]; simp) hg

end Go.Proofs.YtbefcipeojahfaaGreatDoor
