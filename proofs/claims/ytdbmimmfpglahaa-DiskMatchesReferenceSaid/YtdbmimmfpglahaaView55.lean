/- What is read of a disk; lists of strings. -/
import Derived.Test.YtdbmimmfpglahaaDo55
namespace Go.Proofs.Ytdbmimmfpglahaa
open Go.RowKit

def Strs (w : World) (A : Option Addr) (xs : List ByteArray) : Prop := Rd w 1 A xs.length (xs.map Value.string)

theorem Strs.below {w w' : World} {A : Option Addr} {xs : List ByteArray} (h : Strs w A xs) (hb : Below w.heap.size w w') : Strs w' A xs := Rd.below h hb

theorem Strs.at_ {w : World} {A : Option Addr} {xs : List ByteArray} (h : Strs w A xs) {k : Nat} {x : ByteArray} (hk : xs[k]? = some x) :
    ∃ b off, A = some ⟨b, off, none⟩ ∧ w.cell? ⟨b, off + k, none⟩ = some (.string x) := by
  have hl : k < xs.length := (List.getElem?_eq_some_iff.1 hk).1
  obtain ⟨b, off, e, hc⟩ := h.2 (by omega)
  exact ⟨b, off, e, hc k _ (by simp [hk])⟩

/-- What is read from a sector of a disk that is on. -/
def DS.view (S : DS) (i : Nat) : ByteArray := match S.q.reverse.find? (fun p => p.1 == i) with | some p => p.2 | none => S.sector i

theorem read_on (S : DS) (h : S.off = false) (i : Nat) (hi : i < S.n) : S.read (i : Int) = (S.view i, 0) := by
  have he : S.errAt (i : Int) = 0 := by simp [DS.errAt, h]; omega
  simp only [DS.read, he, DS.view]
  simp only [ne_eq, not_true_eq_false, if_false, Int.toNat_natCast]
  cases S.q.reverse.find? (fun p => p.1 == i) <;> rfl

theorem sector_size (S : DS) (hg : S.ok) (i : Nat) (hi : i < S.n) : (S.sector i).size = 64 := by
  show (Array.mk ((S.st.drop (i * 64)).take 64)).size = 64
  rw [List.size_toArray, List.length_take, List.length_drop, hg.len]
  omega

theorem view_size (S : DS) (hg : S.ok) (i : Nat) (hi : i < S.n) : (S.view i).size = 64 := by
  unfold DS.view
  cases hf : S.q.reverse.find? (fun p => p.1 == i) with
  | none => exact sector_size S hg i hi
  | some p => exact (hg.inq p (List.mem_reverse.1 (List.mem_of_find?_eq_some hf))).2

def DS.views (S : DS) : List ByteArray := (List.range S.n).map S.view

theorem views_length (S : DS) : S.views.length = S.n := by simp [DS.views]
theorem views_at (S : DS) (i : Nat) (hi : i < S.n) : S.views[i]? = some (S.view i) := by simp [DS.views, hi]

theorem info_string : (Try.prog.info? 9).map (fun i => (i.zero, i.size, i.bytes)) = some (some (.string ByteArray.empty), 1, 16) := by kernel_rfl

theorem strs_oneCell (l : List ByteArray) : ∀ u ∈ l.map Value.string, u.oneCell' = true := by
  intro u hu
  obtain ⟨x, _, rfl⟩ := List.mem_map.1 hu
  rfl

end Go.Proofs.Ytdbmimmfpglahaa
