/- What all laws of the disk begin with. -/
import Derived.Test.YtdbmimmfpglahaaOwn55
import Derived.Test.YtdbmimmfpglahaaHead55
namespace Go.Proofs.Ytdbmimmfpglahaa
open Go.RowKit

/-- The cells' ranges of an act. -/
def AC.fit (a : AC) : Prop := a.after ≤ 9223372036854775807
def fits (l : List AC) : Prop := ∀ a, a ∈ l → a.fit

theorem okB_len {l : List AC} (h : okB l = true) : l.length ≤ 60 := by
  simp only [okB, Bool.and_eq_true, decide_eq_true_eq] at h; exact h.2
theorem okB_text {l : List AC} (h : okB l = true) (a : AC) (ha : a ∈ l) : a.text.size ≤ 100 := by
  simp only [okB, Bool.and_eq_true, List.all_eq_true, decide_eq_true_eq] at h; exact h.1 a ha

theorem do_step {l : List AC} (hok : okB l = true) (hfit : fits l) (n k : Nat) (a : AC) (hk : l[k]? = some a) {w : World} {d : Nat} {Q : World → DS → Prop} (h : Acc w d (acts (DS.new n) (l.take k)) Q) :
    Calls Try.prog 9 #[.pointer (some ⟨d, 0, none⟩), .agg #[.int .i64 a.kind, .int .i64 a.sector, .int .i64 a.bytes, .string a.text, .bool a.odd, .int .i64 a.after]] w fun e w' => (∃ s c, e = .returned (.tuple #[.string s, .int .i64 c])) ∧ Q w' (acts (DS.new n) (l.take (k + 1))) := by
  have hm : a ∈ l := List.mem_of_getElem? hk
  have hq := acts_few n k l (okB_len hok)
  refine (do_own a h (okB_text hok a hm) (hfit a hm) (by omega)).mono ?_
  rintro e w' ⟨rfl, hQ⟩
  rw [acts_snoc _ _ _ _ hk]
  exact ⟨⟨_, _, rfl⟩, hQ⟩

theorem act_text {l : List AC} (hok : okB l = true) (k : Nat) (a : AC) (hk : l[k]? = some a) (w : World) :
    Calls Try.prog 22 #[.agg #[.int .i64 a.kind, .int .i64 a.sector, .int .i64 a.bytes, .string a.text, .bool a.odd, .int .i64 a.after]] w fun e w' => e = .returned (.string a.txt) ∧ Below w.heap.size w w' :=
  text_any a w (okB_text hok a (List.mem_of_getElem? hk))

theorem Acs.one {w : World} {b : Nat} (a : AC) (h0 : w.cell? ⟨b, 0, none⟩ = some (.int .i64 a.kind)) (h1 : w.cell? ⟨b, 1, none⟩ = some (.int .i64 a.sector)) (h2 : w.cell? ⟨b, 2, none⟩ = some (.int .i64 a.bytes))
    (h3 : w.cell? ⟨b, 3, none⟩ = some (.string a.text)) (h4 : w.cell? ⟨b, 4, none⟩ = some (.bool a.odd)) (h5 : w.cell? ⟨b, 5, none⟩ = some (.int .i64 a.after)) : Acs w (some ⟨b, 0, none⟩) [a] := fun _ => by
  refine ⟨b, 0, rfl, fun k c hk j v hj => ?_⟩
  match k with
  | 0 =>
    obtain rfl : a = c := by simpa using hk
    match j with
    | 0 => cases hj; exact h0
    | 1 => cases hj; exact h1
    | 2 => cases hj; exact h2
    | 3 => cases hj; exact h3
    | 4 => cases hj; exact h4
    | 5 => cases hj; exact h5
    | j + 6 => simp [AC.cells] at hj
  | k + 1 => simp at hk

/-- The number of sectors that the laws make of a byte. -/
def nOf (r : UInt8) : Nat := 1 + r.toNat % 12
theorem nOf_lo (r : UInt8) : 1 ≤ nOf r := by unfold nOf; omega
theorem nOf_hi (r : UInt8) : nOf r ≤ 12 := by unfold nOf; omega
theorem size_nOf (r : UInt8) (w : World) : Calls Try.prog 7 #[.int .u8 r.toNat] w fun e w' => e = .returned (.int .i64 (nOf r : Int)) ∧ w = w' := size_any r w

end Go.Proofs.Ytdbmimmfpglahaa
