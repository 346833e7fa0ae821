/- Arguments of chapter 7's laws: a share, a list of shares, a list of numbers. A slice of strings as an argument. -/
import Derived.Test.YtdlgejofggbifaaGreatDoorChBlindingBackE
namespace Go.Proofs.YtdlgejofggbifaaGreatDoor

section
open Go.RowKit Go.ChangeShapes Go.WideShapes Go.Deep

def ShC (cs : List Value) (s : Int × Int) : Prop := cs = [.int .i64 s.1, .int .i64 s.2] ∧ (-9223372036854775808 ≤ s.1 ∧ s.1 ≤ 9223372036854775807) ∧ (-9223372036854775808 ≤ s.2 ∧ s.2 ≤ 9223372036854775807)

theorem opn_share (w : World) : Opn Tryz.prog w 37 ShC := by
  intro H enc n cs x h
  obtain ⟨V, rfl, hf⟩ := Opn.fields1 Tryz.underlying37 (by kernel_rfl) (by kernel_rfl) h
  obtain ⟨a0, h0, w0⟩ := hf 0 _ rfl (Opn.int Tryz.underlying3)
  obtain ⟨a1, h1, w1⟩ := hf 1 _ rfl (Opn.int Tryz.underlying3)
  refine ⟨(a0, a1), ?_, wf_i64_ w0, wf_i64_ w1⟩
  simp only [List.cons.injEq, and_true] at h0 h1
  simp [List.range_succ, h0, h1]

theorem ShC.val {v : Value} {s : Int × Int} (hv : v = .agg v.cells) (h : ShC v.cells.toList s) : v = .agg #[.int .i64 s.1, .int .i64 s.2] := by
  rw [hv]
  congr 1
  exact Array.toList_inj.1 h.1

theorem ints_in {w : World} {A : Option Addr} {c : Nat} {l : List Int} (h : SlC w 1 (IntC .i64) [.slice A l.length c] l) : Ints w A l ∧ l.length ≤ 9223372036854775807 := by
  obtain ⟨A', c', he, h1, h2, h3⟩ := h
  obtain ⟨rfl, rfl⟩ : A = A' ∧ c = c' := by simpa using he
  refine ⟨⟨by simp, fun hn => ?_⟩, by unfold maxLen at h2; omega⟩
  obtain ⟨b, off, rfl, _, hc⟩ := h3 hn
  refine ⟨b, off, rfl, fun j u hu => ?_⟩
  rw [List.getElem?_map] at hu
  cases hx : l[j]? with
  | none => rw [hx] at hu; cases hu
  | some x =>
    rw [hx] at hu
    obtain ⟨cs', _, hcs, hr, _⟩ := hc j x hx
    have := hcs 0 (.int .i64 x) (by rw [hr]; rfl)
    simp only [Nat.mul_one, Nat.add_zero] at this
    rw [this]; exact hu

theorem flat2_get (l : List (Int × Int)) (j : Nat) (u : Value) (h : (flat2 l)[j]? = some u) : ∃ (k r : Nat) (p : Int × Int), l[k]? = some p ∧ j = k * 2 + r ∧ [Value.int .i64 p.1, .int .i64 p.2][r]? = some u := by
  induction l generalizing j with
  | nil => simp [flat2] at h
  | cons p l ih =>
    have e : flat2 (p :: l) = .int .i64 p.1 :: .int .i64 p.2 :: flat2 l := rfl
    rw [e] at h
    match j, h with
    | 0, h => exact ⟨0, 0, p, rfl, rfl, h⟩
    | 1, h => exact ⟨0, 1, p, rfl, rfl, h⟩
    | j + 2, h =>
      obtain ⟨k, r, q, h1, h2, h3⟩ := ih j (by simpa using h)
      exact ⟨k + 1, r, q, by simpa using h1, by omega, h3⟩

theorem prs_in {w : World} {A : Option Addr} {c : Nat} {l : List (Int × Int)} (h : SlC w 2 ShC [.slice A l.length c] l) : Prs w A l ∧ l.length ≤ 9223372036854775807 := by
  obtain ⟨A', c', he, h1, h2, h3⟩ := h
  obtain ⟨rfl, rfl⟩ : A = A' ∧ c = c' := by simpa using he
  refine ⟨⟨flat2_length l, fun hn => ?_⟩, by unfold maxLen at h2; omega⟩
  obtain ⟨b, off, rfl, _, hc⟩ := h3 hn
  refine ⟨b, off, rfl, fun j u hu => ?_⟩
  obtain ⟨k, r, p, h4, rfl, h5⟩ := flat2_get l j u hu
  obtain ⟨cs', _, hcs, hr, _⟩ := hc k p h4
  have := hcs r u (by rw [hr]; exact h5)
  rw [← Nat.add_assoc]
  exact this
end

section
open Go.RowKit

theorem strs_in {w : World} {A : Option Addr} {c : Nat} {l : List ByteArray} (h : SlC w 1 StrC [.slice A l.length c] l) : Strs w A l ∧ l.length ≤ 9223372036854775807 := by
  obtain ⟨A', c', he, h1, h2, h3⟩ := h
  obtain ⟨rfl, rfl⟩ : A = A' ∧ c = c' := by simpa using he
  refine ⟨⟨by simp, fun hn => ?_⟩, by unfold maxLen at h2; omega⟩
  obtain ⟨b, off, rfl, _, hc⟩ := h3 hn
  refine ⟨b, off, rfl, fun j u hu => ?_⟩
  rw [List.getElem?_map] at hu
  cases hx : l[j]? with
  | none => rw [hx] at hu; cases hu
  | some x =>
    rw [hx] at hu
    have hu' : Value.string x = u := by simpa using hu
    obtain ⟨cs', hl, hcs, hr⟩ := hc j x hx
    have := hcs 0 (.string x) (by rw [hr.1]; rfl)
    rw [← hu']
    simpa using this
end

end Go.Proofs.YtdlgejofggbifaaGreatDoor
