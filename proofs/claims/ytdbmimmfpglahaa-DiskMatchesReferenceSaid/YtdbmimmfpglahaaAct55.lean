/- An act of the disk's laws as an argument. -/
import Derived.Test.YtdbmimmfpglahaaLBase55
import Derived.Test.YtdbmimmfpglahaaOpen
namespace Go.Proofs.Ytdbmimmfpglahaa
open Go.RowKit Go.ChangeShapes Go.WideShapes Go.Deep

def ActC (cs : List Value) (a : AC) : Prop := cs = a.cells ∧ a.fit

theorem opn_act (w : World) : Opn Try.prog w 34 ActC := by
  intro H enc n cs x h
  obtain ⟨V, rfl, hf⟩ := Opn.fields1 Try.underlying34 (by kernel_rfl) (by kernel_rfl) h
  obtain ⟨a0, h0, _⟩ := hf 0 _ rfl (Opn.int Try.underlying3)
  obtain ⟨a1, h1, _⟩ := hf 1 _ rfl (Opn.int Try.underlying3)
  obtain ⟨a2, h2, _⟩ := hf 2 _ rfl (Opn.int Try.underlying3)
  obtain ⟨a3, h3, _⟩ := hf 3 _ rfl (Opn.str Try.underlying9)
  obtain ⟨a4, h4⟩ := hf 4 _ rfl (Opn.bool Try.underlying4)
  obtain ⟨a5, h5, w5⟩ := hf 5 _ rfl (Opn.int Try.underlying3)
  refine ⟨⟨a0, a1, a2, a3, a4, a5⟩, ?_, (wf_i64_ w5).2⟩
  simp only [BoolC, List.cons.injEq, and_true] at h0 h1 h2 h3 h4 h5
  simp [List.range_succ, AC.cells, h0, h1, h2, h3, h4, h5]

theorem ActC.val {v : Value} {a : AC} (hv : v = .agg v.cells) (h : ActC v.cells.toList a) : v = a.val ∧ a.fit := by
  refine ⟨?_, h.2⟩
  rw [hv, AC.val]
  congr 1
  exact Array.toList_inj.1 h.1

theorem acts_in {w : World} {A : Option Addr} {c : Nat} {l : List AC} (h : SlC w 6 ActC [.slice A l.length c] l) : Acs w A l ∧ fits l ∧ l.length ≤ 9223372036854775807 := by
  obtain ⟨A', c', he, h1, h2, h3⟩ := h
  obtain ⟨rfl, rfl⟩ : A = A' ∧ c = c' := by simpa using he
  refine ⟨fun hn => ?_, fun a ha => ?_, by unfold maxLen at h2; omega⟩
  · obtain ⟨b, off, rfl, _, hc⟩ := h3 hn
    refine ⟨b, off, rfl, fun k a hk j v hj => ?_⟩
    obtain ⟨cs', _, hcs, rfl, _⟩ := hc k a hk
    exact hcs j v hj
  · obtain ⟨k, hk⟩ := List.getElem?_of_mem ha
    have hkl := (List.getElem?_eq_some_iff.1 hk).1
    obtain ⟨b, off, rfl, _, hc⟩ := h3 (by omega)
    obtain ⟨cs', _, _, _, hfit⟩ := hc k a hk
    exact hfit

end Go.Proofs.Ytdbmimmfpglahaa
