/- What an argument that came in reads as, type by type: numbers, bools, strings, slices, structs. -/
import Derived.Test.YtbefcipeojahfaaGreatDoorBase
import Derived.ProofKit
import Derived.Deep.Slices
import Derived.Deep.Fields
namespace Go.Proofs.YtbefcipeojahfaaGreatDoor
open Go.RowKit Go.ChangeShapes Go.WideShapes Go.Deep

/-- Whatever cells read as data at type t, they are R of something. -/
def Opn (P : Program) (w : World) (t : TypeId) {α : Type} (R : List Value → α → Prop) : Prop :=
  ∀ (H : Type) (enc : TypeId × Value → H) (n : Nat) (cs : List Value) (x : DataW H × List MemPlace), DataW.trod enc P w 0 (fun _ => true) true n t cs = some x → ∃ a, R cs a

def IntC (k : IntKind) (cs : List Value) (a : Int) : Prop := cs = [.int k a] ∧ (Lit.int k a).wf = true
def BoolC (cs : List Value) (a : Bool) : Prop := cs = [.bool a]
def StrC (cs : List Value) (a : ByteArray) : Prop := cs = [.string a] ∧ a.size ≤ maxLen

theorem Opn.int {P : Program} {w : World} {t : TypeId} {k : IntKind} (ht : P.underlying t = some (.int k)) : Opn P w t (IntC k) := fun _ _ _ _ _ h => by
  obtain ⟨n, hc, _, hw⟩ := DataW.trod_int ht h
  exact ⟨n, hc, hw⟩
theorem Opn.bool {P : Program} {w : World} {t : TypeId} (ht : P.underlying t = some .bool) : Opn P w t BoolC := fun _ _ _ _ _ h => by
  obtain ⟨b, hc, _⟩ := DataW.trod_bool ht h
  exact ⟨b, hc⟩
theorem Opn.str {P : Program} {w : World} {t : TypeId} (ht : P.underlying t = some .string) : Opn P w t StrC := fun _ _ _ _ _ h => by
  obtain ⟨s, hc, _, hs⟩ := DataW.trod_string ht h
  exact ⟨s, hc, hs⟩

/-- A slice: each element is m cells, and R of an element of xs. -/
def SlC (w : World) (m : Nat) {α : Type} (R : List Value → α → Prop) (cs : List Value) (xs : List α) : Prop :=
  ∃ (A : Option Addr) (c : Nat), cs = [.slice A xs.length c] ∧ xs.length ≤ c ∧ c ≤ maxLen ∧
    (0 < xs.length → ∃ b off, A = some ⟨b, off, none⟩ ∧ b < w.heap.size ∧ ∀ (i : Nat) (x : α), xs[i]? = some x → ∃ cs', cs'.length = m ∧ (∀ (j : Nat) (u : Value), cs'[j]? = some u → w.cell? ⟨b, off + i * m + j, none⟩ = some u) ∧ R cs' x)

theorem list_of {α : Type} (n : Nat) (Q : Nat → α → Prop) (h : ∀ i, i < n → ∃ x, Q i x) : ∃ xs : List α, xs.length = n ∧ ∀ (i : Nat) (x : α), xs[i]? = some x → Q i x := by
  induction n with
  | zero => exact ⟨[], rfl, fun i x hx => by simp at hx⟩
  | succ n ih =>
    obtain ⟨xs, hl, hq⟩ := ih (fun i hi => h i (by omega))
    obtain ⟨x, hx⟩ := h n (by omega)
    refine ⟨xs ++ [x], by simp [hl], fun i y hy => ?_⟩
    by_cases hi : i < n
    · rw [List.getElem?_append_left (by omega)] at hy
      exact hq i y hy
    · rw [List.getElem?_append_right (by omega), hl] at hy
      have hj : i - n = 0 := by
        have := (List.getElem?_eq_some_iff.1 hy).1
        simp at this; omega
      rw [hj] at hy
      have e : x = y := by simpa using hy
      subst e
      obtain rfl : i = n := by omega
      exact hx

theorem Opn.slice {P : Program} {w : World} {t e : TypeId} {m : Nat} {α : Type} {R : List Value → α → Prop} (ht : P.underlying t = some (.slice e)) (hm : P.cellsOf e = m) (h0 : 0 < m) (he : Opn P w e R) : Opn P w t (SlC w m R) := by
  intro H enc n cs x h
  rcases open_slice ht h with ⟨rfl, _⟩ | ⟨a, len, cap, k, n', D, Pl, rfl, _, hl, hcap, hk, _, hi⟩
  · exact ⟨[], none, 0, rfl, Nat.le_refl _, by simp [maxLen], fun h1 => by simp at h1⟩
  · obtain rfl : k = cap := by simpa using hk
    obtain ⟨xs, hxl, hxs⟩ := list_of len (fun i x => ∃ cs', cs'.length = m ∧ (∀ j, j < m → w.cell? ((a.add (i * m)).add j) = cs'[j]?) ∧ R cs' x) (fun i hil => by
      obtain ⟨cs', hc, ht'⟩ := hi i (by omega)
      rw [hm] at hc
      obtain ⟨_, hcl, hat⟩ := World.cells?_some hc
      obtain ⟨y, hy⟩ := he H enc n' cs' _ ht'
      exact ⟨y, cs', hcl, hat, hy⟩)
    refine ⟨xs, some a, k, by rw [hxl], by omega, hcap, fun hpos => ?_⟩
    obtain ⟨b, off, spot⟩ := a
    obtain ⟨x0, hx0⟩ := get_some xs 0 hpos
    obtain ⟨cs0, hl0, hat0, _⟩ := hxs 0 x0 hx0
    have h1 := hat0 0 h0
    rw [List.getElem?_eq_getElem (by omega)] at h1
    have hspot : spot = none := by
      have := World.cell?_spot h1
      simpa [Addr.add] using this
    subst hspot
    rw [Addr.add_lit, Addr.add_lit] at h1
    refine ⟨b, off, rfl, lt_of_cell h1, fun i x hx => ?_⟩
    obtain ⟨cs', hcl, hat, hr⟩ := hxs i x hx
    refine ⟨cs', hcl, fun j u hu => ?_, hr⟩
    have hj : j < m := by have := (List.getElem?_eq_some_iff.1 hu).1; omega
    have := hat j hj
    rw [Addr.add_lit, Addr.add_lit] at this
    rw [this, hu]

/-- A struct: field after field. -/
theorem Opn.fields {P : Program} {w : World} {t : TypeId} {fs : Array Field} (ht : P.underlying t = some (.struct fs)) {H : Type} {enc : TypeId × Value → H} {n : Nat} {cs : List Value} {x : DataW H × List MemPlace} (h : DataW.trod enc P w 0 (fun _ => true) true n t cs = some x) :
    cs.length = P.cellsOf t ∧ ∀ (i : Nat) (f : Field), fs[i]? = some f → ∀ {α : Type} {R : List Value → α → Prop}, Opn P w f.type R → ∃ a, R ((cs.drop f.offset).take (P.cellsOf f.type)) a := by
  obtain ⟨ys, n', _, _, hcl, hlen, hf⟩ := DataW.trod_struct ht h
  refine ⟨hcl, fun i f hi α R ho => ?_⟩
  have hlt : i < ys.length := by rw [hlen]; exact (Array.getElem?_eq_some_iff.1 hi).1
  have := hf i f hi
  rw [List.getElem?_eq_getElem hlt] at this
  exact ho H enc n' _ _ this

/-- A struct whose fields are one cell each. -/
theorem Opn.fields1 {P : Program} {w : World} {t : TypeId} {fs : Array Field} (ht : P.underlying t = some (.struct fs)) (hone : oneCellFields P fs = true) (hC : P.cellsOf t = fs.size) {H : Type} {enc : TypeId × Value → H} {n : Nat} {cs : List Value} {x : DataW H × List MemPlace}
    (h : DataW.trod enc P w 0 (fun _ => true) true n t cs = some x) : ∃ V : Nat → Value, cs = (List.range fs.size).map V ∧ ∀ (i : Nat) (f : Field), fs[i]? = some f → ∀ {α : Type} {R : List Value → α → Prop}, Opn P w f.type R → ∃ a, R [V i] a := by
  obtain ⟨hl, hf⟩ := Opn.fields ht h
  rw [hC] at hl
  refine ⟨fun i => cs.getD i undef, ?_, fun i f hi α R ho => ?_⟩
  · apply List.ext_getElem?
    intro i
    by_cases hi : i < fs.size
    · simp [hi, List.getElem?_eq_getElem (show i < cs.length by omega)]
    · rw [List.getElem?_eq_none (show cs.length ≤ i by omega), List.getElem?_eq_none (by rw [List.length_map, List.length_range]; omega)]
  · have hlt : i < fs.size := (Array.getElem?_eq_some_iff.1 hi).1
    obtain ⟨o, k⟩ := hone_of hone i f hi
    have := hf i f hi ho
    rw [o, k, take1_drop cs i undef (by omega)] at this
    exact this

theorem Opn.map {P : Program} {w : World} {t : TypeId} {α β : Type} {R : List Value → α → Prop} {R' : List Value → β → Prop} (h : Opn P w t R) (f : ∀ cs a, R cs a → ∃ b, R' cs b) : Opn P w t R' := fun H enc n cs x hx => by
  obtain ⟨a, ha⟩ := h H enc n cs x hx
  exact f cs a ha

theorem Opn.arg {H : Type} {enc : TypeId × Value → H} {P : Program} {w : World} {t : TypeId} {v : Value} {d : DataW H} {p : List MemPlace} {α : Type} {R : List Value → α → Prop} (h : Opn P w t R) (ht : DataW.Trod enc P w 0 (fun _ => true) true t v d p) : ∃ a, R v.cells.toList a := by
  obtain ⟨n, hn⟩ := ht
  exact h H enc n _ _ hn

theorem IntC.val {P : Program} {w : World} {r : Reach} {b : Nat} {t : TypeId} {v : Value} {k : IntKind} {x : Int} (ht : P.underlying t = some (.int k)) (hv : Value.okWide P w r b t v) (h : IntC k v.cells.toList x) : v = .int k x ∧ (Lit.int k x).wf = true := by
  obtain ⟨n, rfl⟩ := okWide_int ht hv
  exact ⟨by simpa [Value.cells] using h.1, h.2⟩
theorem BoolC.val {P : Program} {w : World} {r : Reach} {b : Nat} {t : TypeId} {v : Value} {x : Bool} (ht : P.underlying t = some .bool) (hv : Value.okWide P w r b t v) (h : BoolC v.cells.toList x) : v = .bool x := by
  obtain ⟨n, rfl⟩ := okWide_bool ht hv
  simpa [BoolC, Value.cells] using h
theorem StrC.val {P : Program} {w : World} {r : Reach} {b : Nat} {t : TypeId} {v : Value} {x : ByteArray} (ht : P.underlying t = some .string) (hv : Value.okWide P w r b t v) (h : StrC v.cells.toList x) : v = .string x ∧ x.size ≤ maxLen := by
  obtain ⟨n, rfl⟩ := okWide_string ht hv
  exact ⟨by simpa [Value.cells] using h.1, h.2⟩
theorem SlC.val {P : Program} {w w2 : World} {r : Reach} {b : Nat} {t e : TypeId} {v : Value} {m : Nat} {α : Type} {R : List Value → α → Prop} {xs : List α} (ht : P.underlying t = some (.slice e)) (hv : Value.okWide P w r b t v) (h : SlC w2 m R v.cells.toList xs) :
    ∃ (A : Option Addr) (c : Nat), v = .slice A xs.length c ∧ xs.length ≤ c ∧ c ≤ maxLen ∧ SlC w2 m R [.slice A xs.length c] xs := by
  obtain ⟨a, l, c, rfl⟩ := okWide_slice ht hv
  have h' := h
  obtain ⟨A, c', h1, h2, h3, _⟩ := h
  obtain ⟨rfl, rfl, rfl⟩ : a = A ∧ l = xs.length ∧ c = c' := by simpa [Value.cells] using h1
  exact ⟨a, c, rfl, h2, h3, by simpa [Value.cells] using h'⟩
theorem agg_val {P : Program} {w : World} {r : Reach} {b : Nat} {t : TypeId} {fs : Array Field} {v : Value} (ht : P.underlying t = some (.struct fs)) (hv : Value.okWide P w r b t v) : v = .agg v.cells := by
  obtain ⟨cs, rfl, _⟩ := okWide_struct ht hv
  simp [Value.cells]

theorem wf_i64_ {a : Int} (h : (Lit.int .i64 a).wf = true) : -9223372036854775808 ≤ a ∧ a ≤ 9223372036854775807 := by
  simpa [Lit.wf, IntKind.min, IntKind.max, IntKind.bits, IntKind.signed] using h
theorem wf_u8_ {a : Int} (h : (Lit.int .u8 a).wf = true) : ∃ n : UInt8, a = n.toNat := by
  have h1 : 0 ≤ a ∧ a ≤ 255 := by simpa [Lit.wf, IntKind.min, IntKind.max, IntKind.bits, IntKind.signed] using h
  refine ⟨UInt8.ofNat a.toNat, ?_⟩
  rw [UInt8.toNat_ofNat']
  omega
theorem wf_u16_ {a : Int} (h : (Lit.int .u16 a).wf = true) : ∃ n : UInt16, a = n.toNat := by
  have h1 : 0 ≤ a ∧ a ≤ 65535 := by simpa [Lit.wf, IntKind.min, IntKind.max, IntKind.bits, IntKind.signed] using h
  refine ⟨UInt16.ofNat a.toNat, ?_⟩
  rw [UInt16.toNat_ofNat']
  omega

end Go.Proofs.YtbefcipeojahfaaGreatDoor
