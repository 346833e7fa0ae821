/- Words for memory that all walks share: what a slice reads as; what a call's own rows read as; quiet calls; endings. What an argument that came in reads as, type by type: numbers, bools, strings, slices, structs. Frames: only some blocks have turned; a block that is known whole. (XDisk has the same words for its own seats.) digest: take. digest: blocks. strconv.FormatUint at base 16. digest.Sum. strings.Builder: what the call itself has made: copyCheck, WriteString, WriteByte. A slice of strings. (XCont55 has the same words for the disk's seats.) digest: List, Is. The digest's plain laws; observatorylaw01.head. Plain laws of the digest: its form; texts that differ in one block. observatoryref01.Few: at most 30 texts, none too long. Plain laws of the joined text: it tells the list. -/
import Derived.Test.YtjfondfjdhjooaaGreatDoorProg
import Derived.WalkKit
import Derived.WalkLawsBesides
import Derived.WalkSpells
import Derived.Lib.Hide
import Derived.Deep.QuietTactic
import Derived.BigQuiet
import Derived.ProofKit
import Derived.Deep.Slices
import Derived.Deep.Fields
import Derived.StillTailTactics
import Derived.Lib.BufferWrite
import Derived.Deep.Cut
import Derived.Test.YtjfondfjdhjooaaGreatDoorShelf
import Derived.Shelf.Strings.SlTrimAscii
namespace Go.Proofs.YtjfondfjdhjooaaGreatDoor
set_option linter.unusedVariables false
set_option linter.unusedSimpArgs false

section
open Go.RowKit

theorem ret_bool {a b : Bool} (h : a = b) : Ending.returned (.bool a) = .returned (.bool b) := by rw [h]
theorem ret_int {k : IntKind} {a b : Int} (h : a = b) : Ending.returned (.int k a) = .returned (.int k b) := by rw [h]

/-! ### lists -/
theorem all_take_succ {α : Type} (f : α → Bool) (xs : List α) (k : Nat) (x : α) (h : xs[k]? = some x) : (xs.take (k + 1)).all f = ((xs.take k).all f && f x) := by
  rw [List.take_add_one, h]; simp

theorem all_false_of {α : Type} (f : α → Bool) (xs : List α) (k : Nat) (x : α) (h : xs[k]? = some x) (hf : f x = false) : xs.all f = false := by
  rw [List.all_eq_false]
  exact ⟨x, List.mem_of_getElem? h, by simp [hf]⟩

theorem take_snoc {α : Type} (xs : List α) (k : Nat) (x : α) (hx : xs[k]? = some x) : xs.take (k + 1) = xs.take k ++ [x] := by
  rw [List.take_add_one, hx]; rfl

theorem get_some {α : Type} (xs : List α) (k : Nat) (h : k < xs.length) : ∃ x, xs[k]? = some x := ⟨_, List.getElem?_eq_getElem h⟩

theorem nodup_not_mem {α : Type} {xs : List α} (h : xs.Nodup) (k : Nat) (x : α) (hx : xs[k]? = some x) : x ∉ xs.take k := by
  obtain ⟨hk, rfl⟩ := List.getElem?_eq_some_iff.1 hx
  have e : xs = xs.take k ++ xs[k] :: xs.drop (k + 1) := by
    rw [← List.drop_eq_getElem_cons hk, List.take_append_drop]
  intro hm
  rw [e] at h
  exact (List.nodup_append.1 h).2.2 _ hm _ List.mem_cons_self rfl

theorem nodup_ne {α : Type} {xs : List α} (h : xs.Nodup) (i k : Nat) (x y : α) (hi : xs[i]? = some x) (hk : xs[k]? = some y) (hlt : i < k) : x ≠ y := by
  obtain ⟨h1, rfl⟩ := List.getElem?_eq_some_iff.1 hi
  obtain ⟨h2, rfl⟩ := List.getElem?_eq_some_iff.1 hk
  exact List.pairwise_iff_getElem.1 h i k h1 h2 hlt

/-! ### worlds -/
theorem below_cell {B : Nat} {w0 wr : World} (h : Below B w0 wr) {b o : Nat} {v : Value} (hb : b < B) (hv : w0.cell? ⟨b, o, none⟩ = some v) : wr.cell? ⟨b, o, none⟩ = some v :=
  (h.cell (p := ⟨b, o, none⟩) hb).trans hv

theorem lt_of_cell {w : World} {b o : Nat} {v : Value} (h : w.cell? ⟨b, o, none⟩ = some v) : b < w.heap.size := World.block_lt_of_cell? w ⟨b, o, none⟩ h

/-- What is there stays, whatever is made behind it. -/
theorem kept_cell {w wr : World} (h : Below w.heap.size w wr) {b o : Nat} {v : Value} (hv : w.cell? ⟨b, o, none⟩ = some v) : wr.cell? ⟨b, o, none⟩ = some v :=
  below_cell h (lt_of_cell hv) hv

theorem below_alloc {w wr : World} (h : Below w.heap.size w wr) (o : Obj) : Below w.heap.size w (wr.alloc o) := h.alloc h.size o

theorem below_trans {w w1 w2 : World} (h : Below w.heap.size w w1) (k : Below w1.heap.size w1 w2) : Below w.heap.size w w2 := h.trans (k.mono h.size)

/-- A quiet call for go_quiet, of a contract that ends in 'w = w''. -/
theorem quiet_same {P : Program} {f : FuncId} {args : Array Value} {w : World} {n : Nat} {v : Value}
    (h : Calls P f args (w.drewN n) fun e w' => e = .returned v ∧ w.drewN n = w') : Calls P f args (w.drewN n) fun e w'' => e = .returned v ∧ ∃ m, w'' = w.drewN m :=
  h.mono fun _ _ ⟨he, hm⟩ => ⟨he, n, hm.symm⟩

/-- .. behind an earlier draw. -/
theorem quiet_same2 {P : Program} {f : FuncId} {args : Array Value} {w : World} {a n : Nat} {v : Value}
    (h : Calls P f args (w.drewN (a + n)) fun e w' => e = .returned v ∧ w.drewN (a + n) = w') : Calls P f args (w.drewN (a + n)) fun e w'' => e = .returned v ∧ ∃ m, w'' = w.drewN (a + m) :=
  h.mono fun _ _ ⟨he, hm⟩ => ⟨he, n, hm.symm⟩

/-! ### what a slice reads as -/

/-- The slice '.slice A n c' reads as the cells cs (size cells an element). -/
def Rd (w : World) (size : Nat) (A : Option Addr) (n : Nat) (cs : List Value) : Prop :=
  cs.length = n * size ∧ (0 < n → ∃ b off, A = some ⟨b, off, none⟩ ∧ ∀ j u, cs[j]? = some u → w.cell? ⟨b, off + j, none⟩ = some u)

theorem Rd.nil (w : World) (size : Nat) (A : Option Addr) : Rd w size A 0 [] := ⟨by simp, by omega⟩

theorem Rd.below {w w' : World} {size n : Nat} {A : Option Addr} {cs : List Value} (h : Rd w size A n cs) (hb : Below w.heap.size w w') : Rd w' size A n cs :=
  ⟨h.1, fun hn => by
    obtain ⟨b, off, e, hc⟩ := h.2 hn
    exact ⟨b, off, e, fun j u hu => kept_cell hb (hc j u hu)⟩⟩

theorem Rd.of_own {w : World} {base : Nat} {e : TypeId} {size n : Nat} {v : Value} {xs : List Value} (h : w.ownsRow base e size v n xs) :
    ∃ A c, v = .slice A n c ∧ n ≤ c ∧ c ≤ maxLen ∧ Rd w size A n xs := by
  obtain ⟨h1, h2⟩ := h
  rcases h2 with ⟨rfl, rfl⟩ | ⟨g, cap, cur, rfl, _, hg, hn, hm, hs, ht⟩
  · exact ⟨none, 0, rfl, Nat.le_refl _, by simp [maxLen], h1, by omega⟩
  · refine ⟨some ⟨g, 0, none⟩, cap, rfl, hn, hm, h1, fun _ => ⟨g, 0, rfl, fun j u hu => ?_⟩⟩
    rw [Nat.zero_add, cell_of_row w g j cur e (0, 0) hg]
    rw [← ht, List.getElem?_take] at hu
    split at hu
    · simpa using hu
    · cases hu

theorem Rd_new (w : World) (cs : Array Value) (T size n g : Nat) (h : cs.size = n * size) (hg : g = w.heap.size) : Rd (w.alloc (.cells cs T)) size (some ⟨g, 0, none⟩) n cs.toList := by
  subst hg
  refine ⟨by simpa using h, fun _ => ⟨_, _, rfl, fun j u hu => ?_⟩⟩
  rw [World.cell?_alloc_at _ _ _ _ rfl]
  simpa using hu

theorem own_some {w : World} {base : Nat} {e : TypeId} {size n c : Nat} {A : Option Addr} {xs : List Value} (h : w.ownsRow base e size (.slice A n c) n xs) (hn : 0 < n) : ∃ g, A = some ⟨g, 0, none⟩ ∧ base ≤ g := by
  rcases h.2 with ⟨_, h0⟩ | ⟨g, cap, cur, hv, hb, _⟩
  · omega
  · injection hv with hv
    exact ⟨g, hv, hb⟩

/-- A contract that leaves the world alone, for go_still_tail. -/
theorem still_of {P : Program} {f : FuncId} {args : Array Value} {w : World} {v : Value} (h : Calls P f args w fun e w' => e = .returned v ∧ w = w') :
    Calls P f args w fun e w'' => e = .returned v ∧ w'' = w := h.mono fun _ _ ⟨he, hw⟩ => ⟨he, hw.symm⟩

/-- A slice of ints. -/
def Ints (w : World) (A : Option Addr) (xs : List Int) : Prop := Rd w 1 A xs.length (xs.map (Value.int .i64))

theorem Ints.below {w w' : World} {A : Option Addr} {xs : List Int} (h : Ints w A xs) (hb : Below w.heap.size w w') : Ints w' A xs := Rd.below h hb

theorem Ints.at_ {w : World} {A : Option Addr} {xs : List Int} (h : Ints w A xs) {k : Nat} {x : Int} (hk : xs[k]? = some x) :
    ∃ b off, A = some ⟨b, off, none⟩ ∧ w.cell? ⟨b, off + k, none⟩ = some (.int .i64 x) := by
  have hl : k < xs.length := (List.getElem?_eq_some_iff.1 hk).1
  obtain ⟨b, off, e, hc⟩ := h.2 (by omega)
  exact ⟨b, off, e, hc k _ (by simp [hk])⟩

/-- A slice of pairs of ints (a share; a point). -/
def flat2 (l : List (Int × Int)) : List Value := l.flatMap fun p => [.int .i64 p.1, .int .i64 p.2]

theorem flat2_length (l : List (Int × Int)) : (flat2 l).length = l.length * 2 := by
  induction l with
  | nil => rfl
  | cons p l ih => simp only [flat2, List.flatMap_cons, List.length_append, List.length_cons, List.length_nil] at *; omega

theorem flat2_append (l m : List (Int × Int)) : flat2 (l ++ m) = flat2 l ++ flat2 m := by simp [flat2]

theorem flat2_at (l : List (Int × Int)) (k : Nat) (p : Int × Int) (h : l[k]? = some p) : (flat2 l)[k * 2]? = some (.int .i64 p.1) ∧ (flat2 l)[k * 2 + 1]? = some (.int .i64 p.2) := by
  induction l generalizing k with
  | nil => simp at h
  | cons q l ih =>
    cases k with
    | zero => simp at h; subst h; simp [flat2]
    | succ k =>
      have := ih k (by simpa using h)
      have e : flat2 (q :: l) = .int .i64 q.1 :: .int .i64 q.2 :: flat2 l := rfl
      rw [e, show (k + 1) * 2 = (k * 2 + 1) + 1 by omega]
      simpa using this

theorem flat2_oneCell (l : List (Int × Int)) : ∀ u ∈ flat2 l, u.oneCell' = true := by
  intro u hu
  obtain ⟨p, _, hp⟩ := List.mem_flatMap.1 hu
  simp at hp
  rcases hp with rfl | rfl <;> rfl

def Prs (w : World) (A : Option Addr) (l : List (Int × Int)) : Prop := Rd w 2 A l.length (flat2 l)

theorem Prs.below {w w' : World} {A : Option Addr} {l : List (Int × Int)} (h : Prs w A l) (hb : Below w.heap.size w w') : Prs w' A l := Rd.below h hb

theorem Prs.at_ {w : World} {A : Option Addr} {l : List (Int × Int)} (h : Prs w A l) {k : Nat} {p : Int × Int} (hk : l[k]? = some p) :
    ∃ b off, A = some ⟨b, off, none⟩ ∧ w.cell? ⟨b, off + k * 2, none⟩ = some (.int .i64 p.1) ∧ w.cell? ⟨b, off + k * 2 + 1, none⟩ = some (.int .i64 p.2) := by
  have hl : k < l.length := (List.getElem?_eq_some_iff.1 hk).1
  obtain ⟨b, off, e, hc⟩ := h.2 (by omega)
  obtain ⟨h1, h2⟩ := flat2_at l k p hk
  exact ⟨b, off, e, hc _ _ h1, by rw [Nat.add_assoc]; exact hc _ _ h2⟩

theorem Prs_new (w : World) (cs : Array Value) (T g : Nat) (l : List (Int × Int)) (h : cs.toList = flat2 l) (hg : g = w.heap.size) : Prs (w.alloc (.cells cs T)) (some ⟨g, 0, none⟩) l := by
  unfold Prs
  rw [← h]
  exact Rd_new w cs T 2 l.length g (by rw [← Array.length_toList, h, flat2_length]) hg

theorem Ints_new (w : World) (cs : Array Value) (T g : Nat) (l : List Int) (h : cs.toList = l.map (Value.int .i64)) (hg : g = w.heap.size) : Ints (w.alloc (.cells cs T)) (some ⟨g, 0, none⟩) l := by
  unfold Ints
  rw [← h]
  exact Rd_new w cs T 1 l.length g (by rw [← Array.length_toList, h]; simp) hg

/-! ### append, the source nil or not; its type may be another slice type -/
theorem run_append_types {P : Program} (w : World) (t t2 ty e e2 : TypeId) (ht : P.underlying t = some (.slice e)) (ht2 : P.underlying t2 = some (.slice e2)) (a : Option Addr) (n c : Nat) (x : Value) :
    (Builtin.append_ #[t, t2] ty #[.slice a n c, x]).run P w = (Builtin.append_ #[t, t] ty #[.slice a n c, x]).run P w := by
  simp [Builtin.append_, run_underlying ht, run_underlying ht2]

theorem run_app {P : Program} (w : World) (base : Nat) (t t2 ty e e2 : TypeId) (i : TypeInfo) (z : Value) (size bytes : Nat) (ht : P.underlying t = some (.slice e)) (ht2 : P.underlying t2 = some (.slice e2)) (hi : P.info? e = some i) (hz : i.zero = some z)
    (hsize : i.size = size) (hby : i.bytes = bytes) (hzs : z.cells.size = size) (hsz : 0 < size)
    (v : Value) (n : Nat) (xs : List Value) (hown : w.ownsRow base e size v n xs)
    (A : Option Addr) (m c : Nat) (news : List Value) (hr : Rd w size A m news) (h1 : ∀ u ∈ news, u.oneCell' = true)
    (h63 : n + m ≤ maxLen) (hbytes : (n + m) * bytes ≤ 140737488355328) (hbase : base ≤ w.heap.size) :
    ∃ v' w', (Builtin.append_ #[t, t2] ty #[v, .slice A m c]).run P w = .ok v' w' ∧ w'.ownsRow base e size v' (n + m) (xs ++ news) ∧ w.grownBy w' v.ownBlock := by
  obtain ⟨a0, c0, hv⟩ : ∃ a0 c0, v = .slice a0 n c0 := by
    obtain ⟨A', c', hv, _⟩ := Rd.of_own hown
    exact ⟨A', c', hv⟩
  have hty : (Builtin.append_ #[t, t2] ty #[v, .slice A m c]).run P w = (Builtin.append_ #[t, t] ty #[v, .slice A m c]).run P w := by
    rw [hv]; exact run_append_types w t t2 ty e e2 ht ht2 _ _ _ _
  rw [hty]
  by_cases hm : m = 0
  · subst hm
    have hn : news = [] := List.eq_nil_of_length_eq_zero (by simpa using hr.1)
    subst hn
    refine ⟨v, w, ?_, by simpa using hown, World.grownBy.refl w _⟩
    have hz0 : (Builtin.firstCells i.size 0 (.slice A 0 c)).run P w = .ok #[] w := by
      cases A <;> simp [Builtin.firstCells, loadCells, loadCellsFrom]
    rcases hown.2 with ⟨rfl, rfl⟩ | ⟨g, cap, cur, rfl, _, _, hnc, _⟩
    · simp [Builtin.append_, run_underlying ht, sizeOf, typeInfo, hi, Builtin.lenOf, hz0]
    · simp [Builtin.append_, run_underlying ht, sizeOf, typeInfo, hi, Builtin.lenOf, hnc, storeCells, hz0]
  · obtain ⟨b, off, rfl, hc⟩ := hr.2 (by omega)
    obtain ⟨v', w', hrun, h2, h3, _⟩ := run_append_own (P := P) w base t ty e i z size bytes ht hi hz hsize hby hzs hsz v n xs hown ⟨b, off, none⟩ m c news hr.1
      (fun j u hu => by rw [Addr.add_lit]; exact hc j u hu) h1 h63 hbytes hbase
    exact ⟨v', w', hrun, h2, h3⟩

theorem wpList_app {P : Program} (w : World) {ops : Array Oper} {rest : List Oper} {o : Oper} {a : Act} {Q : Exit → Act → World → Prop} (hgd : o.guard = none) (s x : Operand) (t t2 : TypeId)
    (ho : o.op = .call { callee := .builtin .append, args := #[s, x], argTypes := #[t, t2] })
    (base : Nat) (e e2 : TypeId) (i : TypeInfo) (z : Value) (size bytes : Nat) (ht : P.underlying t = some (.slice e)) (ht2 : P.underlying t2 = some (.slice e2)) (hi : P.info? e = some i) (hz : i.zero = some z)
    (hsize : i.size = size) (hby : i.bytes = bytes) (hzs : z.cells.size = size) (hsz : 0 < size)
    (v : Value) (n : Nat) (xs : List Value) (hs : a.eval s = v) (hown : w.ownsRow base e size v n xs)
    (A : Option Addr) (m c : Nat) (news : List Value) (hx : a.eval x = .slice A m c) (hr : Rd w size A m news) (h1 : ∀ u ∈ news, u.oneCell' = true)
    (h63 : n + m ≤ maxLen) (hbytes : (n + m) * bytes ≤ 140737488355328) (hbase : base ≤ w.heap.size)
    (h : ∀ v' w', w'.ownsRow base e size v' (n + m) (xs ++ news) → w.grownBy w' v.ownBlock → wpList P ops Q rest (a.put o.dst v') w') : wpList P ops Q (o :: rest) a w := by
  refine wpList_plain hgd fun K hK => ?_
  obtain ⟨v', w', hrun, h2, h3⟩ := run_app (P := P) w base t t2 o.type e e2 i z size bytes ht ht2 hi hz hsize hby hzs hsz v n xs hown A m c news hr h1 h63 hbytes hbase
  unfold Oper.wp execOp
  simp only [ho, resolve, invoke, builtin, Sem.run_bind, Sem.run_pure, Result.andThen_ok, List.map_toArray, List.map_cons, List.map_nil, hs, hx, hrun]
  exact hK _ _ (h v' w' h2 h3)

/-! ### an array's value, indexed -/
theorem run_index_agg {P : Program} (t e n : Nat) (q : IntKind) (i : TypeInfo) (cs : Array Value) (k : IntKind) (j : Nat) (v : Value) (h : P.underlying t = some (.array n e)) (he : P.underlying e = some (.int q)) (hi : P.info? e = some i) (hs : i.size = 1)
    (hj : j < n) (hv : cs[j]? = some v) (w : World) : (Instr.index t (.agg cs) (.int k (j : Int))).run P w = .ok v w := by
  simp [Instr.index, run_underlying h, asIntOf, hj, part, isAgg, run_underlying he, sizeOf, typeInfo, hi, hs, hv]
end

section
open Go.RowKit Go.ChangeShapes Go.WideShapes Go.Deep

/-- Whatever cells read as data at type t, they are R of something. -/
def Opn (P : Program) (w : World) (t : TypeId) {α : Type} (R : List Value → α → Prop) : Prop :=
  ∀ (H : Type) (enc : TypeId × Value → H) (n : Nat) (cs : List Value) (x : DataW H × List MemPlace), DataW.trod enc P w 0 (fun _ => true) true n t cs = some x → ∃ a, R cs a

def IntC (k : IntKind) (cs : List Value) (a : Int) : Prop := cs = [.int k a] ∧ (Lit.int k a).wf = true
def BoolC (cs : List Value) (a : Bool) : Prop := cs = [.bool a]
def StrC (cs : List Value) (a : ByteArray) : Prop := cs = [.string a] ∧ a.size ≤ maxLen

theorem Opn.int {P : Program} {w : World} {t : TypeId} {k : IntKind} (ht : P.underlying t = some (.int k)) : Opn P w t (IntC k) := fun _ _ _ _ _ h => by
  obtain ⟨n, hc, _, hw⟩ := DataW.trod_int ht h
  exact ⟨n, hc, hw⟩
theorem Opn.bool {P : Program} {w : World} {t : TypeId} (ht : P.underlying t = some .bool) : Opn P w t BoolC := fun _ _ _ _ _ h => by
  obtain ⟨b, hc, _⟩ := DataW.trod_bool ht h
  exact ⟨b, hc⟩
theorem Opn.str {P : Program} {w : World} {t : TypeId} (ht : P.underlying t = some .string) : Opn P w t StrC := fun _ _ _ _ _ h => by
  obtain ⟨s, hc, _, hs⟩ := DataW.trod_string ht h
  exact ⟨s, hc, hs⟩

/-- A slice: each element is m cells, and R of an element of xs. -/
def SlC (w : World) (m : Nat) {α : Type} (R : List Value → α → Prop) (cs : List Value) (xs : List α) : Prop :=
  ∃ (A : Option Addr) (c : Nat), cs = [.slice A xs.length c] ∧ xs.length ≤ c ∧ c ≤ maxLen ∧
    (0 < xs.length → ∃ b off, A = some ⟨b, off, none⟩ ∧ b < w.heap.size ∧ ∀ (i : Nat) (x : α), xs[i]? = some x → ∃ cs', cs'.length = m ∧ (∀ (j : Nat) (u : Value), cs'[j]? = some u → w.cell? ⟨b, off + i * m + j, none⟩ = some u) ∧ R cs' x)

theorem list_of {α : Type} (n : Nat) (Q : Nat → α → Prop) (h : ∀ i, i < n → ∃ x, Q i x) : ∃ xs : List α, xs.length = n ∧ ∀ (i : Nat) (x : α), xs[i]? = some x → Q i x := by
  induction n with
  | zero => exact ⟨[], rfl, fun i x hx => by simp at hx⟩
  | succ n ih =>
    obtain ⟨xs, hl, hq⟩ := ih (fun i hi => h i (by omega))
    obtain ⟨x, hx⟩ := h n (by omega)
    refine ⟨xs ++ [x], by simp [hl], fun i y hy => ?_⟩
    by_cases hi : i < n
    · rw [List.getElem?_append_left (by omega)] at hy
      exact hq i y hy
    · rw [List.getElem?_append_right (by omega), hl] at hy
      have hj : i - n = 0 := by
        have := (List.getElem?_eq_some_iff.1 hy).1
        simp at this; omega
      rw [hj] at hy
      have e : x = y := by simpa using hy
      subst e
      obtain rfl : i = n := by omega
      exact hx

theorem Opn.slice {P : Program} {w : World} {t e : TypeId} {m : Nat} {α : Type} {R : List Value → α → Prop} (ht : P.underlying t = some (.slice e)) (hm : P.cellsOf e = m) (h0 : 0 < m) (he : Opn P w e R) : Opn P w t (SlC w m R) := by
  intro H enc n cs x h
  rcases open_slice ht h with ⟨rfl, _⟩ | ⟨a, len, cap, k, n', D, Pl, rfl, _, hl, hcap, hk, _, hi⟩
  · exact ⟨[], none, 0, rfl, Nat.le_refl _, by simp [maxLen], fun h1 => by simp at h1⟩
  · obtain rfl : k = cap := by simpa using hk
    obtain ⟨xs, hxl, hxs⟩ := list_of len (fun i x => ∃ cs', cs'.length = m ∧ (∀ j, j < m → w.cell? ((a.add (i * m)).add j) = cs'[j]?) ∧ R cs' x) (fun i hil => by
      obtain ⟨cs', hc, ht'⟩ := hi i (by omega)
      rw [hm] at hc
      obtain ⟨_, hcl, hat⟩ := World.cells?_some hc
      obtain ⟨y, hy⟩ := he H enc n' cs' _ ht'
      exact ⟨y, cs', hcl, hat, hy⟩)
    refine ⟨xs, some a, k, by rw [hxl], by omega, hcap, fun hpos => ?_⟩
    obtain ⟨b, off, spot⟩ := a
    obtain ⟨x0, hx0⟩ := get_some xs 0 hpos
    obtain ⟨cs0, hl0, hat0, _⟩ := hxs 0 x0 hx0
    have h1 := hat0 0 h0
    rw [List.getElem?_eq_getElem (by omega)] at h1
    have hspot : spot = none := by
      have := World.cell?_spot h1
      simpa [Addr.add] using this
    subst hspot
    rw [Addr.add_lit, Addr.add_lit] at h1
    refine ⟨b, off, rfl, lt_of_cell h1, fun i x hx => ?_⟩
    obtain ⟨cs', hcl, hat, hr⟩ := hxs i x hx
    refine ⟨cs', hcl, fun j u hu => ?_, hr⟩
    have hj : j < m := by have := (List.getElem?_eq_some_iff.1 hu).1; omega
    have := hat j hj
    rw [Addr.add_lit, Addr.add_lit] at this
    rw [this, hu]

/-- A struct: field after field. -/
theorem Opn.fields {P : Program} {w : World} {t : TypeId} {fs : Array Field} (ht : P.underlying t = some (.struct fs)) {H : Type} {enc : TypeId × Value → H} {n : Nat} {cs : List Value} {x : DataW H × List MemPlace} (h : DataW.trod enc P w 0 (fun _ => true) true n t cs = some x) :
    cs.length = P.cellsOf t ∧ ∀ (i : Nat) (f : Field), fs[i]? = some f → ∀ {α : Type} {R : List Value → α → Prop}, Opn P w f.type R → ∃ a, R ((cs.drop f.offset).take (P.cellsOf f.type)) a := by
  obtain ⟨ys, n', _, _, hcl, hlen, hf⟩ := DataW.trod_struct ht h
  refine ⟨hcl, fun i f hi α R ho => ?_⟩
  have hlt : i < ys.length := by rw [hlen]; exact (Array.getElem?_eq_some_iff.1 hi).1
  have := hf i f hi
  rw [List.getElem?_eq_getElem hlt] at this
  exact ho H enc n' _ _ this

/-- A struct whose fields are one cell each. -/
theorem Opn.fields1 {P : Program} {w : World} {t : TypeId} {fs : Array Field} (ht : P.underlying t = some (.struct fs)) (hone : oneCellFields P fs = true) (hC : P.cellsOf t = fs.size) {H : Type} {enc : TypeId × Value → H} {n : Nat} {cs : List Value} {x : DataW H × List MemPlace}
    (h : DataW.trod enc P w 0 (fun _ => true) true n t cs = some x) : ∃ V : Nat → Value, cs = (List.range fs.size).map V ∧ ∀ (i : Nat) (f : Field), fs[i]? = some f → ∀ {α : Type} {R : List Value → α → Prop}, Opn P w f.type R → ∃ a, R [V i] a := by
  obtain ⟨hl, hf⟩ := Opn.fields ht h
  rw [hC] at hl
  refine ⟨fun i => cs.getD i undef, ?_, fun i f hi α R ho => ?_⟩
  · apply List.ext_getElem?
    intro i
    by_cases hi : i < fs.size
    · simp [hi, List.getElem?_eq_getElem (show i < cs.length by omega)]
    · rw [List.getElem?_eq_none (show cs.length ≤ i by omega), List.getElem?_eq_none (by rw [List.length_map, List.length_range]; omega)]
  · have hlt : i < fs.size := (Array.getElem?_eq_some_iff.1 hi).1
    obtain ⟨o, k⟩ := hone_of hone i f hi
    have := hf i f hi ho
    rw [o, k, take1_drop cs i undef (by omega)] at this
    exact this

theorem Opn.map {P : Program} {w : World} {t : TypeId} {α β : Type} {R : List Value → α → Prop} {R' : List Value → β → Prop} (h : Opn P w t R) (f : ∀ cs a, R cs a → ∃ b, R' cs b) : Opn P w t R' := fun H enc n cs x hx => by
  obtain ⟨a, ha⟩ := h H enc n cs x hx
  exact f cs a ha

theorem Opn.arg {H : Type} {enc : TypeId × Value → H} {P : Program} {w : World} {t : TypeId} {v : Value} {d : DataW H} {p : List MemPlace} {α : Type} {R : List Value → α → Prop} (h : Opn P w t R) (ht : DataW.Trod enc P w 0 (fun _ => true) true t v d p) : ∃ a, R v.cells.toList a := by
  obtain ⟨n, hn⟩ := ht
  exact h H enc n _ _ hn

theorem IntC.val {P : Program} {w : World} {r : Reach} {b : Nat} {t : TypeId} {v : Value} {k : IntKind} {x : Int} (ht : P.underlying t = some (.int k)) (hv : Value.okWide P w r b t v) (h : IntC k v.cells.toList x) : v = .int k x ∧ (Lit.int k x).wf = true := by
  obtain ⟨n, rfl⟩ := okWide_int ht hv
  exact ⟨by simpa [Value.cells] using h.1, h.2⟩
theorem BoolC.val {P : Program} {w : World} {r : Reach} {b : Nat} {t : TypeId} {v : Value} {x : Bool} (ht : P.underlying t = some .bool) (hv : Value.okWide P w r b t v) (h : BoolC v.cells.toList x) : v = .bool x := by
  obtain ⟨n, rfl⟩ := okWide_bool ht hv
  simpa [BoolC, Value.cells] using h
theorem StrC.val {P : Program} {w : World} {r : Reach} {b : Nat} {t : TypeId} {v : Value} {x : ByteArray} (ht : P.underlying t = some .string) (hv : Value.okWide P w r b t v) (h : StrC v.cells.toList x) : v = .string x ∧ x.size ≤ maxLen := by
  obtain ⟨n, rfl⟩ := okWide_string ht hv
  exact ⟨by simpa [Value.cells] using h.1, h.2⟩
theorem SlC.val {P : Program} {w w2 : World} {r : Reach} {b : Nat} {t e : TypeId} {v : Value} {m : Nat} {α : Type} {R : List Value → α → Prop} {xs : List α} (ht : P.underlying t = some (.slice e)) (hv : Value.okWide P w r b t v) (h : SlC w2 m R v.cells.toList xs) :
    ∃ (A : Option Addr) (c : Nat), v = .slice A xs.length c ∧ xs.length ≤ c ∧ c ≤ maxLen ∧ SlC w2 m R [.slice A xs.length c] xs := by
  obtain ⟨a, l, c, rfl⟩ := okWide_slice ht hv
  have h' := h
  obtain ⟨A, c', h1, h2, h3, _⟩ := h
  obtain ⟨rfl, rfl, rfl⟩ : a = A ∧ l = xs.length ∧ c = c' := by simpa [Value.cells] using h1
  exact ⟨a, c, rfl, h2, h3, by simpa [Value.cells] using h'⟩
theorem agg_val {P : Program} {w : World} {r : Reach} {b : Nat} {t : TypeId} {fs : Array Field} {v : Value} (ht : P.underlying t = some (.struct fs)) (hv : Value.okWide P w r b t v) : v = .agg v.cells := by
  obtain ⟨cs, rfl, _⟩ := okWide_struct ht hv
  simp [Value.cells]

theorem wf_i64_ {a : Int} (h : (Lit.int .i64 a).wf = true) : -9223372036854775808 ≤ a ∧ a ≤ 9223372036854775807 := by
  simpa [Lit.wf, IntKind.min, IntKind.max, IntKind.bits, IntKind.signed] using h
theorem wf_u8_ {a : Int} (h : (Lit.int .u8 a).wf = true) : ∃ n : UInt8, a = n.toNat := by
  have h1 : 0 ≤ a ∧ a ≤ 255 := by simpa [Lit.wf, IntKind.min, IntKind.max, IntKind.bits, IntKind.signed] using h
  refine ⟨UInt8.ofNat a.toNat, ?_⟩
  rw [UInt8.toNat_ofNat']
  omega
theorem wf_u16_ {a : Int} (h : (Lit.int .u16 a).wf = true) : ∃ n : UInt16, a = n.toNat := by
  have h1 : 0 ≤ a ∧ a ≤ 65535 := by simpa [Lit.wf, IntKind.min, IntKind.max, IntKind.bits, IntKind.signed] using h
  refine ⟨UInt16.ofNat a.toNat, ?_⟩
  rw [UInt16.toNat_ofNat']
  omega
end

section
open Go.RowKit

/-! ### only some blocks have turned -/
structure Chg (F : List Nat) (w w' : World) : Prop where
  os : w'.os = w.os
  tape : w'.tape = w.tape
  output : w'.output = w.output
  size : w.heap.size ≤ w'.heap.size
  block : ∀ k, k < w.heap.size → k ∉ F → w'.heap[k]? = w.heap[k]?

theorem Chg.refl (F : List Nat) (w : World) : Chg F w w := ⟨rfl, rfl, rfl, Nat.le_refl _, fun _ _ _ => rfl⟩
theorem Chg.trans {F F1 : List Nat} {a b c : World} (h : Chg F a b) (k : Chg F1 b c) (hs : ∀ j, j ∈ F1 → j ∈ F ∨ a.heap.size ≤ j) : Chg F a c :=
  ⟨k.os.trans h.os, k.tape.trans h.tape, k.output.trans h.output, Nat.le_trans h.size k.size, fun i hi hn => (k.block i (Nat.lt_of_lt_of_le hi h.size) (fun e => by rcases hs i e with h1 | h1; exact hn h1; omega)).trans (h.block i hi hn)⟩
theorem Chg.alloc {F : List Nat} {a w : World} (h : Chg F a w) (o : Obj) : Chg F a (w.alloc o) :=
  ⟨h.os, h.tape, h.output, Nat.le_trans h.size (by simp), fun i hi hn => (Below.heap_alloc w o i (Nat.lt_of_lt_of_le hi h.size)).trans (h.block i hi hn)⟩
theorem Chg.drew {F : List Nat} {a w : World} (h : Chg F a w) : Chg F a w.drew := ⟨h.os, h.tape, h.output, h.size, h.block⟩
theorem Chg.drewN {F : List Nat} {a w : World} (h : Chg F a w) (n : Nat) : Chg F a (w.drewN n) := ⟨h.os, h.tape, h.output, h.size, h.block⟩
theorem Chg.setCell {F : List Nat} {a w : World} (h : Chg F a w) {p : Addr} (hp : p.block ∈ F ∨ a.heap.size ≤ p.block) (u : Value) : Chg F a (w.setCell p u) :=
  ⟨h.os, h.tape, h.output, by simpa [World.setCell] using h.size, fun i hi hn => (Below.heap_setCell w p u i (by
    rintro rfl
    rcases hp with hp | hp
    · exact hn hp
    · omega)).trans (h.block i hi hn)⟩
theorem Chg.of_below {a w : World} (h : Below a.heap.size a w) (F : List Nat) : Chg F a w := ⟨h.os, h.tape, h.output, h.size, fun i hi _ => h.block i hi⟩
theorem Chg.grown {F : List Nat} {a w w' : World} {row : Option Nat} (h : Chg F a w) (hg : w.grownBy w' row) (hr : ∀ k, row = some k → k ∈ F ∨ a.heap.size ≤ k) : Chg F a w' :=
  ⟨hg.os.trans h.os, hg.tape.trans h.tape, hg.output.trans h.output, Nat.le_trans h.size hg.size, fun i hi hn => (hg.block i (Nat.lt_of_lt_of_le hi h.size) (fun e => by rcases hr i e.symm with h1 | h1; exact hn h1; omega)).trans (h.block i hi hn)⟩
theorem Chg.below {F : List Nat} {a w : World} {B : Nat} (h : Chg F a w) (hF : ∀ k, k ∈ F → B ≤ k) (hB : B ≤ a.heap.size) : Below B a w :=
  ⟨h.os, h.tape, h.output, h.size, fun k hk => h.block k (by omega) (fun e => by have := hF k e; omega)⟩
theorem Chg.cell {F : List Nat} {a w : World} (h : Chg F a w) {b o : Nat} {v : Value} (hb : b ∉ F) (hv : a.cell? ⟨b, o, none⟩ = some v) : w.cell? ⟨b, o, none⟩ = some v :=
  (World.cell?_of_block (w := a) (h.block b (lt_of_cell hv) hb)).trans hv

/-- Block g is just the cells cs of element type t. -/
def Blk (w : World) (g : Nat) (t : TypeId) (cs : Array Value) : Prop := w.heap[g]? = some (.cells cs t (0, 0))

theorem Blk.lt {w : World} {g : Nat} {t : TypeId} {cs : Array Value} (h : Blk w g t cs) : g < w.heap.size := (Array.getElem?_eq_some_iff.1 h).1
theorem Blk.cell {w : World} {g : Nat} {t : TypeId} {cs : Array Value} (h : Blk w g t cs) (i : Nat) : w.cell? ⟨g, i, none⟩ = cs[i]? := cell_of_row w g i cs t (0, 0) h
theorem Blk.frozen {w : World} {g : Nat} {t : TypeId} {cs : Array Value} (h : Blk w g t cs) (i : Nat) : w.frozen? ⟨g, i, none⟩ = false := frozen_of_row w g i cs t h
theorem Blk.set {w : World} {g : Nat} {t : TypeId} {cs : Array Value} (h : Blk w g t cs) (i : Nat) (u : Value) : Blk (w.setCell ⟨g, i, none⟩ u) g t (cs.setIfInBounds i u) := heap_setCell_same w g i cs t u h
theorem Blk.far {w : World} {g : Nat} {t : TypeId} {cs : Array Value} (h : Blk w g t cs) {p : Addr} (hp : g ≠ p.block) (u : Value) : Blk (w.setCell p u) g t cs := (Below.heap_setCell w p u g hp).trans h
theorem Blk.alloc {w : World} {g : Nat} {t : TypeId} {cs : Array Value} (h : Blk w g t cs) (o : Obj) : Blk (w.alloc o) g t cs := (Below.heap_alloc w o g h.lt).trans h
theorem Blk.drew {w : World} {g : Nat} {t : TypeId} {cs : Array Value} (h : Blk w g t cs) : Blk w.drew g t cs := h
theorem Blk.drewN {w : World} {g : Nat} {t : TypeId} {cs : Array Value} (h : Blk w g t cs) (n : Nat) : Blk (w.drewN n) g t cs := h
theorem Blk.chg {w w' : World} {g : Nat} {t : TypeId} {cs : Array Value} {F : List Nat} (h : Blk w g t cs) (hc : Chg F w w') (hg : g ∉ F) : Blk w' g t cs := (hc.block g h.lt hg).trans h
theorem Blk.grown {w w' : World} {g : Nat} {t : TypeId} {cs : Array Value} {row : Option Nat} (h : Blk w g t cs) (hb : w.grownBy w' row) (hg : some g ≠ row) : Blk w' g t cs := (hb.block g h.lt hg).trans h
theorem Blk.ne_ {w : World} {g g' : Nat} {t t' : TypeId} {cs cs' : Array Value} (h : Blk w g t cs) (h' : Blk w g' t' cs') (hne : t ≠ t') : g ≠ g' := by
  rintro rfl
  unfold Blk at h h'
  rw [h] at h'
  injection h' with h'
  injection h' with _ ht
  exact hne ht
theorem own_blk_ne {w : World} {g : Nat} {t : TypeId} {cs : Array Value} {base : Nat} {e : TypeId} {size n : Nat} {v : Value} {xs : List Value} (h : w.ownsRow base e size v n xs) (hg : Blk w g t cs) (hne : e ≠ t) : v.ownBlock ≠ some g := by
  rcases h.2 with ⟨rfl, _⟩ | ⟨g', cap, cur, rfl, _, hh, _⟩
  · simp [Value.ownBlock]
  · intro he
    have : g' = g := by simpa [Value.ownBlock] using he
    subst this
    exact Blk.ne_ (t := e) hh hg hne rfl

theorem Chg.mono {F F' : List Nat} {a w : World} (h : Chg F a w) (hs : ∀ k, k ∈ F → k ∈ F' ∨ a.heap.size ≤ k) : Chg F' a w :=
  ⟨h.os, h.tape, h.output, h.size, fun k hk hn => h.block k hk (fun hm => by rcases hs k hm with h1 | h1; exact hn h1; omega)⟩
theorem Chg.to_below {a w : World} {F : List Nat} (h : Chg F a w) (hs : ∀ k, k ∈ F → a.heap.size ≤ k) : Below a.heap.size a w := h.below hs (Nat.le_refl _)
theorem Blk.of_cell {w : World} {g : Nat} {t : TypeId} {cs : Array Value} (h : Blk w g t cs) {i : Nat} {v : Value} (hv : cs[i]? = some v) : w.cell? ⟨g, i, none⟩ = some v := (h.cell i).trans hv
theorem Blk.new (w : World) (t : TypeId) (cs : Array Value) (g : Nat) (h : g = w.heap.size) : Blk (w.alloc (.cells cs t)) g t cs := by
  subst h; exact heap_alloc_new w _
end

section
open Go.RowKit

/-! ### a block's number; mixing -/
def blk64 (l : List UInt8) : UInt64 := l.foldl (fun n b => n <<< 8 ||| b.toUInt64) 0
def mix64 (x : UInt64) : UInt64 :=
  let x := (x ^^^ x >>> 31) * 14029467366897019727
  let x := (x ^^^ x >>> 27) * 11400714785074694791
  x ^^^ x >>> 33

/-! ### 64-bit numbers as the walk spells them -/
theorem wrap_u64 (n : Int) : IntKind.u64.wrap n = n % 18446744073709551616 := by
  simp [IntKind.wrap, IntKind.bits, IntKind.signed]
theorem ofInt_u64 (a : UInt64) : (BitVec.ofInt 64 (a.toNat : Int)) = a.toBitVec := by
  apply BitVec.eq_of_toNat_eq
  rw [BitVec.ofInt_natCast, BitVec.toNat_ofNat]
  exact Nat.mod_eq_of_lt a.toNat_lt
theorem cast_u64 (a : UInt64) : IntKind.u64.wrap (a.toNat : Int) = (a.toNat : Int) := by
  have := a.toNat_lt
  rw [wrap_u64]; omega
theorem bits_xor_u64 (a b : UInt64) : bits .xor .u64 (a.toNat : Int) (b.toNat : Int) = ((a ^^^ b).toNat : Int) := by
  show IntKind.u64.wrap ((BitVec.ofInt 64 (a.toNat : Int) ^^^ BitVec.ofInt 64 (b.toNat : Int)).toNat : Int) = _
  rw [ofInt_u64, ofInt_u64]
  exact cast_u64 (a ^^^ b)
theorem bits_or_u64 (a b : UInt64) : bits .or .u64 (a.toNat : Int) (b.toNat : Int) = ((a ||| b).toNat : Int) := by
  show IntKind.u64.wrap ((BitVec.ofInt 64 (a.toNat : Int) ||| BitVec.ofInt 64 (b.toNat : Int)).toNat : Int) = _
  rw [ofInt_u64, ofInt_u64]
  exact cast_u64 (a ||| b)
theorem shr_u64 (a : UInt64) (k m : Nat) (hk : k < 64) (hm : 2 ^ k = m) : ((a.toNat : Int) / (m : Int)) = ((a >>> (UInt64.ofNat k)).toNat : Int) := by
  rw [UInt64.toNat_shiftRight, UInt64.toNat_ofNat', Nat.mod_eq_of_lt (show k < 2 ^ 64 by omega), Nat.mod_eq_of_lt hk, Nat.shiftRight_eq_div_pow, hm]
  rfl
theorem mul_u64 (a b : UInt64) (c : Int) (hc : (b.toNat : Int) = c) : IntKind.u64.wrap ((a.toNat : Int) * c) = ((a * b).toNat : Int) := by
  rw [wrap_u64, UInt64.toNat_mul, ← hc]
  omega
theorem u8_u64 (c : UInt8) : IntKind.u64.wrap (c.toNat : Int) = (c.toUInt64.toNat : Int) := by
  have := c.toNat_lt
  rw [wrap_u64, UInt8.toNat_toUInt64]; omega
theorem shl8_u64 (a : UInt64) : IntKind.u64.wrap ((a.toNat : Int) * 256) = ((a <<< 8).toNat : Int) := by
  rw [wrap_u64, UInt64.toNat_shiftLeft, Nat.shiftLeft_eq]
  have e : (8 : UInt64).toNat % 64 = 8 := rfl
  rw [e]
  omega

theorem blk_snoc (l : List UInt8) (c : UInt8) : blk64 (l ++ [c]) = blk64 l <<< 8 ||| c.toUInt64 := by
  simp [blk64]

theorem mix_walk (x : UInt64) : bits .xor .u64 (IntKind.u64.wrap (bits .xor .u64 (IntKind.u64.wrap (bits .xor .u64 (x.toNat : Int) ((x.toNat : Int) / 2147483648) * 14029467366897019727)) (IntKind.u64.wrap (bits .xor .u64 (x.toNat : Int) ((x.toNat : Int) / 2147483648) * 14029467366897019727) / 134217728) * 11400714785074694791))
    (IntKind.u64.wrap (bits .xor .u64 (IntKind.u64.wrap (bits .xor .u64 (x.toNat : Int) ((x.toNat : Int) / 2147483648) * 14029467366897019727)) (IntKind.u64.wrap (bits .xor .u64 (x.toNat : Int) ((x.toNat : Int) / 2147483648) * 14029467366897019727) / 134217728) * 11400714785074694791) / 8589934592) = ((mix64 x).toNat : Int) := by
  have s31 (a : UInt64) : (a.toNat : Int) / (2147483648 : Int) = ((a >>> 31).toNat : Int) := shr_u64 a 31 2147483648 (by omega) (by decide)
  have s27 (a : UInt64) : (a.toNat : Int) / (134217728 : Int) = ((a >>> 27).toNat : Int) := shr_u64 a 27 134217728 (by omega) (by decide)
  have s33 (a : UInt64) : (a.toNat : Int) / (8589934592 : Int) = ((a >>> 33).toNat : Int) := shr_u64 a 33 8589934592 (by omega) (by decide)
  have m1 (a : UInt64) : IntKind.u64.wrap ((a.toNat : Int) * 14029467366897019727) = ((a * 14029467366897019727).toNat : Int) := mul_u64 a 14029467366897019727 _ rfl
  have m2 (a : UInt64) : IntKind.u64.wrap ((a.toNat : Int) * 11400714785074694791) = ((a * 11400714785074694791).toNat : Int) := mul_u64 a 11400714785074694791 _ rfl
  rw [s31, bits_xor_u64, m1, s27, bits_xor_u64, m2, s33, bits_xor_u64]
  rfl

theorem mix_walk_ (s n : UInt64) : bits .xor .u64 (IntKind.u64.wrap (bits .xor .u64 (IntKind.u64.wrap (bits .xor .u64 (bits .xor .u64 (s.toNat : Int) (n.toNat : Int)) (bits .xor .u64 (s.toNat : Int) (n.toNat : Int) / 2147483648) * 14029467366897019727)) (IntKind.u64.wrap (bits .xor .u64 (bits .xor .u64 (s.toNat : Int) (n.toNat : Int)) (bits .xor .u64 (s.toNat : Int) (n.toNat : Int) / 2147483648) * 14029467366897019727) / 134217728) * 11400714785074694791))
    (IntKind.u64.wrap (bits .xor .u64 (IntKind.u64.wrap (bits .xor .u64 (bits .xor .u64 (s.toNat : Int) (n.toNat : Int)) (bits .xor .u64 (s.toNat : Int) (n.toNat : Int) / 2147483648) * 14029467366897019727)) (IntKind.u64.wrap (bits .xor .u64 (bits .xor .u64 (s.toNat : Int) (n.toNat : Int)) (bits .xor .u64 (s.toNat : Int) (n.toNat : Int) / 2147483648) * 14029467366897019727) / 134217728) * 11400714785074694791) / 8589934592) = ((mix64 (s ^^^ n)).toNat : Int) := by
  rw [bits_xor_u64 s n, mix_walk]

set_option maxRecDepth 100000 in
set_option maxHeartbeats 4000000 in
theorem take_any (b : Nat) (s : UInt64) (c0 c1 c2 c3 c4 c5 c6 c7 : UInt8) (w : World) (h : w.cell? ⟨b, 0, none⟩ = some (.int .u64 s.toNat)) (hf : w.frozen? ⟨b, 0, none⟩ = false) :
    Calls Tryz.prog 149 #[.pointer (some ⟨b, 0, none⟩), .agg #[.int .u8 c0.toNat, .int .u8 c1.toNat, .int .u8 c2.toNat, .int .u8 c3.toNat, .int .u8 c4.toNat, .int .u8 c5.toNat, .int .u8 c6.toNat, .int .u8 c7.toNat]] w fun e w' => e = .returned (.tuple #[]) ∧
      Chg [b] w w' ∧ w'.cell? ⟨b, 0, none⟩ = some (.int .u64 (mix64 (s ^^^ blk64 [c0, c1, c2, c3, c4, c5, c6, c7])).toNat) ∧ w'.frozen? ⟨b, 0, none⟩ = false := by
  have hl := lt_of_cell h
  obtain ⟨bs, hbs⟩ : ∃ bs, [c0, c1, c2, c3, c4, c5, c6, c7] = bs := ⟨_, rfl⟩
  have HBS := Lib.hid hbs
  rw [hbs]
  clear hbs
  obtain ⟨wa, hwa⟩ : ∃ wa, w.alloc (.cells #[.int .u8 c0.toNat, .int .u8 c1.toNat, .int .u8 c2.toNat, .int .u8 c3.toNat, .int .u8 c4.toNat, .int .u8 c5.toNat, .int .u8 c6.toNat, .int .u8 c7.toNat] 186) = wa := ⟨_, rfl⟩
  have HC : Hid (∀ (k : Nat) (c : UInt8), bs[k]? = some c → wa.cell? ⟨w.heap.size, k, none⟩ = some (.int .u8 c.toNat)) := Lib.hid (fun k c hc => by
    rw [← hwa, World.cell?_alloc_at _ _ _ _ rfl]
    have e : #[Value.int .u8 c0.toNat, .int .u8 c1.toNat, .int .u8 c2.toNat, .int .u8 c3.toNat, .int .u8 c4.toNat, .int .u8 c5.toNat, .int .u8 c6.toNat, .int .u8 c7.toNat] = (bs.map fun c => Value.int .u8 c.toNat).toArray := by rw [← HBS.out]; rfl
    rw [e, List.getElem?_toArray, List.getElem?_map, hc]; rfl)
  have hb1 : Chg [b] w wa := by rw [← hwa]; exact (Chg.refl [b] w).alloc _
  have hc1 : wa.cell? ⟨b, 0, none⟩ = some (.int .u64 s.toNat) := by rw [← hwa, World.cell?_alloc_lt _ _ _ hl]; exact h
  have hf1 : wa.frozen? ⟨b, 0, none⟩ = false := by rw [← hwa, World.frozen?_alloc_old _ _ _ (Nat.ne_of_lt hl)]; exact hf
  have HB1 := Lib.hid hb1
  have HWA := Lib.hid hwa
  have hlb := lt_of_cell hc1
  clear hb1 hwa h hf
  go_enter Tryz.func149, Tryz.ntmps149
  go_wp2_with fail
  rw [HWA.out]
  go_loop [4, 7] (fun u4 u7 => ∃ k : Nat, k ≤ 8 ∧ u7 = .int .i64 k ∧ u4 = .int .u64 (blk64 (bs.take k)).toNat) (fun _ u7 => 8 - (intOf u7).toNat)
  case atStart => exact ⟨0, Nat.zero_le _, rfl, rfl⟩
  case round =>
  obtain ⟨k, hk, rfl, rfl⟩ := hrel
  by_cases hlt : k < 8
  · obtain ⟨c, hc⟩ : ∃ c, bs[k]? = some c := by rw [← HBS.out]; exact get_some _ k hlt
    have hcell := HC.out k c hc
    have HSN := Lib.hid (take_snoc bs k c hc)
    obtain ⟨n, hn⟩ : ∃ n, blk64 (bs.take k) = n := ⟨_, rfl⟩
    rw [hn]
    have HN := Lib.hid hn
    clear hn hc
    go_wp2_with fail
    go_round
    case rel => exact ⟨k + 1, by omega, by go_num, by rw [shl8_u64, u8_u64, bits_or_u64, HSN.out, blk_snoc, HN.out]⟩
    case measure => simp [intOf]; omega
  · obtain rfl : k = 8 := by omega
    obtain ⟨n, hn⟩ : ∃ n, blk64 (bs.take 8) = n := ⟨_, rfl⟩
    rw [hn]
    have HN := Lib.hid hn
    clear hn
    have HE : Hid (blk64 bs = n) := Lib.hid (by rw [← HN.out, List.take_of_length_le]; rw [← HBS.out]; exact Nat.le_refl _)
    go_wp2_with fail
    go_end0
    rw [mix_walk_ s n, HE.out]
    generalize mix64 (s ^^^ n) = X
    refine ⟨rfl, HB1.out.setCell (.inl (List.mem_cons_self)) _, World.cell?_setCell_same _ _ _ hc1, ?_⟩
    rw [World.frozen?_setCell]; exact hf1
end

section
open Go.RowKit

/-! ### copy(bytes, s) from a string, as much as there is room -/
theorem run_copy_min {P : Program} (w : World) (dT sT ty elem : TypeId) (g o dLen dCap m : Nat) (s : ByteArray) (cur : Array Value) (t : TypeId)
    (hu : P.underlying dT = some (.slice elem)) (hs : (P.info? elem).map (·.size) = some 1) (hg : w.heap[g]? = some (.cells cur t (0, 0))) (hm : Nat.min s.size dLen = m) (hfit : o + m ≤ cur.size) :
    (Builtin.copy_ #[dT, sT] ty #[.slice (some ⟨g, o, none⟩) dLen dCap, .string s]).run P w =
      .ok (goInt m) (w.setRow g (cur.toList.take o ++ (Go.Lib.byteCells s.data.toList).take m ++ cur.toList.drop (o + m)).toArray) := by
  have hms : m ≤ s.size := by rw [← hm]; exact Nat.min_le_left _ _
  have hlen : ((Go.Lib.byteCells s.data.toList).take m).length = m := by
    rw [List.length_take, Go.Lib.byteCells_length, ← Go.Lib.size_eq]; omega
  have hst := run_storeCells_at P g o t ((Go.Lib.byteCells s.data.toList).take m) 0 cur w hg (by rw [hlen]; simpa using hfit) (fun v hv => Go.Lib.byteCells_one _ v (List.mem_of_mem_take hv))
  have htk : List.take m (List.map (fun b : UInt8 => Value.int IntKind.u8 (b.toNat : Int)) s.data.toList) = (Go.Lib.byteCells s.data.toList).take m := rfl
  rw [hlen] at hst
  simp only [Nat.add_zero] at hst
  cases hq : P.info? elem with
  | none => simp [hq] at hs
  | some i =>
    simp [Builtin.copy_, run_underlying hu, Builtin.lenOf, Builtin.firstCells, sizeOf, typeInfo, hq, hm]
    rw [htk, hst]
    simp [Result.andThen]

theorem wpList_copy_min {P : Program} {w : World} {ops : Array Oper} {rest : List Oper} {o : Oper} {a : Act} {Q : Exit → Act → World → Prop} (hgd : o.guard = none) (d s : Operand) (dT sT : TypeId)
    (ho : o.op = .call { callee := .builtin .copy, args := #[d, s], argTypes := #[dT, sT] }) (elem : TypeId) (hu : P.underlying dT = some (.slice elem)) (hsz : (P.info? elem).map (·.size) = some 1)
    (g off dLen dCap m : Nat) (t : ByteArray) (T : TypeId) (hd : a.eval d = .slice (some ⟨g, off, none⟩) dLen dCap) (hs : a.eval s = .string t)
    (cur : Array Value) (hg : Blk w g T cur) (hm : Nat.min t.size dLen = m) (hfit : off + m ≤ cur.size)
    (h : ∀ w', Blk w' g T (cur.toList.take off ++ (Go.Lib.byteCells t.data.toList).take m ++ cur.toList.drop (off + m)).toArray → Chg [g] w w' → wpList P ops Q rest (a.put o.dst (goInt m)) w') :
    wpList P ops Q (o :: rest) a w := by
  refine wpList_plain hgd fun K hK => ?_
  have hrun := run_copy_min (P := P) w dT sT o.type elem g off dLen dCap m t cur T hu hsz hg hm hfit
  unfold Oper.wp
  simp only [execOp, ho, resolve, invoke, builtin, Sem.run_bind, Sem.run_pure, Result.andThen_ok, List.map_toArray, List.map_cons, List.map_nil, hd, hs, hrun]
  refine hK _ _ (h _ (setRow_heap w g cur _ T _ hg) ?_)
  refine ⟨rfl, rfl, rfl, by simp [World.setRow], fun k hk hn => setRow_other w g k _ (by simpa using hn)⟩

theorem info_u8 : (Tryz.prog.info? 5).map (·.size) = some 1 := by kernel_rfl

/-! ### the blocks of a text -/
def pblk (t : ByteArray) (k : Nat) : List UInt8 := (t.data.toList.drop (8 * k)).take 8 ++ List.replicate (8 - ((t.data.toList.drop (8 * k)).take 8).length) 0
theorem pblk_len (t : ByteArray) (k : Nat) : (pblk t k).length = 8 := by
  simp only [pblk, List.length_append, List.length_replicate, List.length_take]; omega
def absorb (s : UInt64) (t : ByteArray) : Nat → UInt64
  | 0 => s
  | k + 1 => mix64 (absorb s t k ^^^ blk64 (pblk t k))

theorem list8 (l : List UInt8) (h : l.length = 8) : ∃ c0 c1 c2 c3 c4 c5 c6 c7, l = [c0, c1, c2, c3, c4, c5, c6, c7] := by
  match l, h with
  | [c0, c1, c2, c3, c4, c5, c6, c7], _ => exact ⟨c0, c1, c2, c3, c4, c5, c6, c7, rfl⟩

/-- What lies in the block behind the copy. -/
theorem copied (t : ByteArray) (k m : Nat) (hk : 8 * k ≤ t.size) (hm : Nat.min (t.extract (8 * k) t.size).size 8 = m) :
    ((List.replicate 8 (Value.int .u8 0)).take 0 ++ (Go.Lib.byteCells (t.extract (8 * k) t.size).data.toList).take m ++ (List.replicate 8 (Value.int .u8 0)).drop (0 + m)) = (pblk t k).map fun b => Value.int .u8 b.toNat := by
  have e : (t.extract (8 * k) t.size).data.toList = t.data.toList.drop (8 * k) := by
    rw [ByteArray.data_extract, Array.toList_extract, List.extract_eq_take_drop, List.take_of_length_le]
    rw [List.length_drop]; exact Nat.le_refl _
  have hz : (t.extract (8 * k) t.size).size = (t.data.toList.drop (8 * k)).length := by rw [← e]; rfl
  have hl : ((t.data.toList.drop (8 * k)).take 8).length = m := by
    rw [List.length_take, ← hz, Nat.min_comm]; exact hm
  have h8 : m ≤ 8 := by rw [← hm]; exact Nat.min_le_right _ _
  rw [e]
  simp only [List.take_zero, List.nil_append, Nat.zero_add, pblk, List.map_append, List.drop_replicate, List.map_replicate, hl]
  congr 1
  · unfold Go.Lib.byteCells
    rw [← List.map_take]
    congr 1
    rw [← hl, List.length_take, ← List.take_take, List.take_length]

set_option maxRecDepth 100000 in
set_option maxHeartbeats 8000000 in
theorem blocks_any (b : Nat) (s : UInt64) (t : ByteArray) (w : World) (h : w.cell? ⟨b, 0, none⟩ = some (.int .u64 s.toNat)) (hf : w.frozen? ⟨b, 0, none⟩ = false) (ht : t.size ≤ 1000000000) :
    Calls Tryz.prog 148 #[.string t, .func (.func 149) #[.pointer (some ⟨b, 0, none⟩)] #[]] w fun e w' => e = .returned (.tuple #[]) ∧
      Chg [b] w w' ∧ w'.cell? ⟨b, 0, none⟩ = some (.int .u64 (absorb s t (t.size / 8 + 1)).toNat) ∧ w'.frozen? ⟨b, 0, none⟩ = false := by
  have hl := lt_of_cell h
  have H0 := Lib.hid h
  have HF0 := Lib.hid hf
  clear h hf
  go_enter Tryz.func148, Tryz.ntmps148
  go_wp2_with fail
  go_loopw [4] (fun u4 wr => ∃ k : Nat, k ≤ t.size / 8 + 1 ∧ u4 = .int .i64 (8 * k : Nat) ∧ Chg [b] w wr ∧ wr.cell? ⟨b, 0, none⟩ = some (.int .u64 (absorb s t k).toNat) ∧ wr.frozen? ⟨b, 0, none⟩ = false) (fun u4 _ => t.size + 8 - (intOf u4).toNat)
  case atStart => exact ⟨0, Nat.zero_le _, rfl, Chg.refl _ _, H0.out, HF0.out⟩
  case round =>
  obtain ⟨k, hk, rfl, hc, h1, h2⟩ := hrel
  have HC := Lib.hid hc
  have H1 := Lib.hid h1
  have H2 := Lib.hid h2
  have hbw := lt_of_cell h1
  clear hc h1 h2
  by_cases hlt : 8 * k ≤ t.size
  · obtain ⟨m, hm⟩ : ∃ m, Nat.min (t.extract (8 * k) t.size).size 8 = m := ⟨_, rfl⟩
    have h8 : m ≤ 8 := by rw [← hm]; exact Nat.min_le_right _ _
    have HCO := Lib.hid (copied t k m hlt hm)
    have HM := Lib.hid hm
    clear hm
    obtain ⟨c0, c1, c2, c3, c4, c5, c6, c7, hp⟩ := list8 (pblk t k) (pblk_len t k)
    have HP := Lib.hid hp
    clear hp
    obtain ⟨q, hq⟩ : ∃ q, 8 * k = q := ⟨_, rfl⟩
    have hq1 : q ≤ t.size := by omega
    rw [hq]
    have HQ := Lib.hid hq
    clear hq hlt
    obtain ⟨g, hg⟩ : ∃ g, wr.heap.size = g := ⟨_, rfl⟩
    obtain ⟨wb, hwb⟩ : ∃ wb, wr.alloc (.cells #[.int .u8 0, .int .u8 0, .int .u8 0, .int .u8 0, .int .u8 0, .int .u8 0, .int .u8 0, .int .u8 0] 186) = wb := ⟨_, rfl⟩
    have HB : Hid (Blk wb g 186 (List.replicate 8 (Value.int .u8 0)).toArray) := Lib.hid (by rw [← hwb, ← hg]; exact Blk.new _ _ _ _ rfl)
    have HCB : Hid (Chg [b] w wb) := Lib.hid (by rw [← hwb]; exact HC.out.alloc _)
    have HB1 : Hid (wb.cell? ⟨b, 0, none⟩ = some (.int .u64 (absorb s t k).toNat)) := Lib.hid (by rw [← hwb, World.cell?_alloc_lt _ _ _ hbw]; exact H1.out)
    have HB2 : Hid (wb.frozen? ⟨b, 0, none⟩ = false) := Lib.hid (by rw [← hwb, World.frozen?_alloc_old _ _ _ (Nat.ne_of_lt hbw)]; exact H2.out)
    have HG : Hid (b ≠ g ∧ w.heap.size ≤ g) := Lib.hid ⟨by omega, by have := HC.out.size; omega⟩
    have HWB := Lib.hid hwb
    have HGE := Lib.hid hg
    clear hwb hg hbw
    go_wp2_with fail
    rw [HWB.out, HGE.out]
    refine wp_region_still_tail 4 (by kernel_rfl) (by kernel_rfl) ?_
    simp only [List.take_succ_cons, List.take_zero, List.drop_succ_cons, List.drop_zero]
    change wpStill _ _ (World.drew _) _ _ _
    repeat still_step
    refine wpStill_nil ?_
    change wpList _ _ _ _ _ (World.drew _)
    refine wpList_copy_min rfl (.tmp 12) (.tmp 15) 146 9 rfl 5 Tryz.underlying146 info_u8 g 0 8 8 m (t.extract q t.size) 186 rfl rfl _ (HB.out.drew) (by rw [← HQ.out]; exact HM.out) (by simp; omega) ?_
    intro w2 hb2 hc2
    have hx := HCO.out
    rw [HQ.out, HP.out] at hx
    rw [List.toList_toArray, hx] at hb2
    have HC2 : Hid (Chg [b] w w2) := Lib.hid (HCB.out.trans (Chg.trans (Chg.refl [g] wb).drew hc2 (fun j hj => .inl hj)) (fun j hj => by rcases List.mem_singleton.1 hj with rfl; exact .inr HG.out.2))
    have HD1 : Hid (w2.cell? ⟨b, 0, none⟩ = some (.int .u64 (absorb s t k).toNat)) := Lib.hid (hc2.cell (by simp only [List.mem_singleton]; exact HG.out.1) HB1.out)
    have HD2 : Hid (w2.frozen? ⟨b, 0, none⟩ = false) := Lib.hid (by
      rw [World.frozen?_of_block (w := wb.drew) (hc2.block b (lt_of_cell HB1.out) (by simp only [List.mem_singleton]; exact HG.out.1))]; exact HB2.out)
    have x0 := hb2.of_cell (i := 0) rfl
    have x1 := hb2.of_cell (i := 1) rfl
    have x2 := hb2.of_cell (i := 2) rfl
    have x3 := hb2.of_cell (i := 3) rfl
    have x4 := hb2.of_cell (i := 4) rfl
    have x5 := hb2.of_cell (i := 5) rfl
    have x6 := hb2.of_cell (i := 6) rfl
    have x7 := hb2.of_cell (i := 7) rfl
    have hgl := lt_of_cell x0
    clear hx hb2 hc2
    go_wp2_with fail
    refine (take_any b (absorb s t k) c0 c1 c2 c3 c4 c5 c6 c7 w2 HD1.out HD2.out).mono ?_
    rintro e w3 ⟨rfl, hc3, h3, h4⟩
    have HC3 := Lib.hid (HC2.out.trans hc3 (fun j hj => .inl hj))
    have H3 : Hid (w3.cell? ⟨b, 0, none⟩ = some (.int .u64 (absorb s t (k + 1)).toNat)) := Lib.hid (by rw [absorb, HP.out]; exact h3)
    have H4 := Lib.hid h4
    clear hc3 h3 h4 x0 x1 x2 x3 x4 x5 x6 x7 hgl
    go_wp2_with fail
    go_roundw
    case rel => exact ⟨k + 1, by have := HQ.out; omega, by rw [← HQ.out]; go_num, HC3.out, H3.out, H4.out⟩
    case measure => simp [intOf]; omega
  · obtain rfl : k = t.size / 8 + 1 := by omega
    go_wp2_with fail
    go_end0
    exact ⟨rfl, HC.out, H1.out, H2.out⟩
end

section
open Go.RowKit

/-- The table's one entry that is read. -/
def Tab64 (w : World) : Prop := w.cell? ⟨5, 15, none⟩ = some (.int .u8 4)
theorem Tab64.below {w w' : World} (h : Tab64 w) (hb : Below w.heap.size w w') : Tab64 w' := kept_cell hb h

theorem tz64 (w : World) (h : Tab64 w) : Calls Tryz.prog 194 #[.int .u64 16] w fun e w' => e = .returned (.int .i64 4) ∧ w = w' := by
  unfold Tab64 at h
  have e1 : IntKind.u64.wrap (bits BinOp.and IntKind.u64 16 (IntKind.u64.wrap (-16)) * 285870213051353865) / 288230376151711744 = 15 := by kernel_rfl
  go_enter Tryz.func194, Tryz.ntmps194
  go_wp2
  go_ret
  exact ⟨rfl, rfl⟩

theorem tz (w : World) (h : Tab64 w) : Calls Tryz.prog 187 #[.int .u64 16] w fun e w' => e = .returned (.int .i64 4) ∧ w = w' := by
  go_enter Tryz.func187, Tryz.ntmps187
  go_wp2_with fail
  refine (tz64 _ h).mono ?_
  rintro e w' ⟨rfl, rfl⟩
  go_wp2
  go_ret
  exact ⟨rfl, rfl⟩

theorem pow2 (w : World) : Calls Tryz.prog 186 #[.int .i64 16] w fun e w' => e = .returned (.bool true) ∧ w = w' := by
  have e1 : (bits BinOp.and IntKind.i64 16 15 == 0) = true := by kernel_rfl
  go_enter Tryz.func186, Tryz.ntmps186
  go_wp2
  go_ret
  exact ⟨rfl, rfl⟩

/-! ### the digits -/
def hexd (n : Nat) : UInt8 := if n < 10 then UInt8.ofNat (48 + n) else UInt8.ofNat (87 + n)
/-- The lowest k digits, the highest first. -/
def hexk (u : Nat) : Nat → List UInt8
  | 0 => []
  | k + 1 => hexd (u / 16 ^ k % 16) :: hexk u k
theorem hexk_len (u k : Nat) : (hexk u k).length = k := by
  induction k with
  | zero => rfl
  | succ k ih => simp [hexk, ih]
def digs : ByteArray := ⟨#[48, 49, 50, 51, 52, 53, 54, 55, 56, 57, 97, 98, 99, 100, 101, 102, 103, 104, 105, 106, 107, 108, 109, 110, 111, 112, 113, 114, 115, 116, 117, 118, 119, 120, 121, 122]⟩

/-- The number of digits. -/
def hexn (u : Nat) : Nat := if h : u < 16 then 1 else hexn (u / 16) + 1
termination_by u
decreasing_by omega

theorem hexn_eq (k : Nat) : ∀ u, (∀ j, j < k → 16 ≤ u / 16 ^ j) → u / 16 ^ k < 16 → hexn u = k + 1 := by
  induction k with
  | zero =>
    intro u _ h
    rw [hexn, dif_pos (by simpa using h)]
  | succ k ih =>
    intro u h1 h2
    have h0 := h1 0 (by omega)
    rw [Nat.pow_zero, Nat.div_one] at h0
    rw [hexn, dif_neg (by omega), ih (u / 16) (fun j hj => by
      rw [Nat.div_div_eq_div_mul, ← Nat.pow_succ']; exact h1 (j + 1) (by omega)) (by
      rw [Nat.div_div_eq_div_mul, ← Nat.pow_succ']; exact h2)]
theorem hex_few (u k : Nat) (hu : u < 18446744073709551616) (h : 16 ≤ u / 16 ^ k) : k ≤ 14 := by
  have h1 : 16 * 16 ^ k ≤ u := by
    have := Nat.mul_le_of_le_div _ _ _ h
    exact this
  rw [← Nat.pow_succ'] at h1
  have h3 : (16 : Nat) ^ 16 = 18446744073709551616 := by decide
  have h2 : 16 ^ (k + 1) < 16 ^ 16 := Nat.lt_of_le_of_lt h1 (by rw [h3]; exact hu)
  have := (Nat.pow_lt_pow_iff_right (by omega : 1 < 16)).1 h2
  omega
/-- The array while it is filled from behind: j zeros, then the digits. -/
def fill65 (j : Nat) (l : List UInt8) : List UInt8 := List.replicate j 0 ++ l
def u8c (l : List UInt8) : List Value := l.map fun b => .int .u8 b.toNat
theorem zeros65 : Tryz.zeroCells208 = (u8c (fill65 65 [])).toArray := by rfl
theorem fill_at (j : Nat) (l : List UInt8) : (u8c (fill65 (j + 1) l)).toArray[j]? = some (.int .u8 0) := by
  rw [List.getElem?_toArray, u8c, List.getElem?_map, fill65, List.getElem?_append_left (by simp), List.getElem?_replicate_of_lt (by omega)]
  rfl
theorem fill_set (j : Nat) (l : List UInt8) (d : UInt8) : (u8c (fill65 (j + 1) l)).toArray.setIfInBounds j (.int .u8 d.toNat) = (u8c (fill65 j (d :: l))).toArray := by
  rw [List.setIfInBounds_toArray]
  congr 1
  unfold u8c fill65
  rw [← List.map_set]
  congr 1
  rw [List.set_append_left _ _ (by simp), List.replicate_succ', List.set_append_right _ _ (by simp)]
  simp
theorem digs_at (d : Nat) (h : d < 16) : ∀ (hd : d < digs.size), digs[d] = hexd d := by
  intro hd
  match d, h with
  | 0, _ => rfl
  | 1, _ => rfl
  | 2, _ => rfl
  | 3, _ => rfl
  | 4, _ => rfl
  | 5, _ => rfl
  | 6, _ => rfl
  | 7, _ => rfl
  | 8, _ => rfl
  | 9, _ => rfl
  | 10, _ => rfl
  | 11, _ => rfl
  | 12, _ => rfl
  | 13, _ => rfl
  | 14, _ => rfl
  | 15, _ => rfl
  | d + 16, h => omega

theorem conv_any (w : World) (g : Nat) (T : TypeId) (l : List UInt8) (h : Blk w g T (u8c l).toArray) (lo n cap : Nat) (hlo : lo + n ≤ l.length) :
    (convert 146 9 (.slice (some ⟨g, lo, none⟩) n cap)).run Tryz.prog w = .ok (.string ⟨((l.drop lo).take n).toArray⟩) w := by
  have hl : ((l.drop lo).take n).length = n := by simp; omega
  have := run_convert_bytes_back (P := Tryz.prog) w 146 9 5 ⟨g, lo, none⟩ cap ((l.drop lo).take n) Tryz.underlying146 Tryz.underlying5 Tryz.underlying9 (by
    intro j hj
    rw [Addr.add_lit, h.cell]
    simp only [u8c, List.getElem?_toArray, List.getElem?_map, List.getElem_take, List.getElem_drop]
    rw [List.getElem?_eq_getElem (by rw [hl] at hj; omega)]
    rfl)
  rw [hl] at this
  exact this

theorem bits_and15 (u : Nat) (h : u < 18446744073709551616) : bits .and .u64 (u : Int) 15 = ((u % 16 : Nat) : Int) := by
  have h1 : (BitVec.ofInt 64 (u : Int)).toNat = u := by
    rw [BitVec.ofInt_natCast, BitVec.toNat_ofNat]; exact Nat.mod_eq_of_lt (by omega)
  show IntKind.u64.wrap ((BitVec.ofInt 64 (u : Int) &&& BitVec.ofInt 64 (15 : Int)).toNat : Int) = _
  rw [BitVec.toNat_and, h1]
  have h2 : (BitVec.ofInt 64 (15 : Int)).toNat = 2 ^ 4 - 1 := by decide
  rw [h2, Nat.and_two_pow_sub_one_eq_mod, wrap_u64]
  omega

set_option maxRecDepth 100000 in
set_option maxHeartbeats 8000000 in
theorem fmtbits (u : Nat) (hu : u < 18446744073709551616) (w : World) (h : Tab64 w) :
    Calls Tryz.prog 172 #[.slice none 0 0, .int .u64 u, .int .i64 16, .bool false, .bool false] w fun e w' => e = .returned (.tuple #[.slice none 0 0, .string ⟨(hexk u (hexn u)).toArray⟩]) ∧ Below w.heap.size w w' := by
  have HT := Lib.hid h
  clear h
  go_enter Tryz.func172, Tryz.ntmps172
  go_wp2_with fail
  refine (pow2 _).mono ?_
  rintro e w1 ⟨rfl, rfl⟩
  go_wp2_with fail
  refine (tz _ (HT.out.below (below_alloc (Below.refl _ _) _))).mono ?_
  rintro e w1 ⟨rfl, rfl⟩
  obtain ⟨g, hg⟩ : ∃ g, w.heap.size = g := ⟨_, rfl⟩
  obtain ⟨wa, hwa⟩ : ∃ wa, w.alloc (.cells Tryz.zeroCells208 208) = wa := ⟨_, rfl⟩
  have HB : Hid (Blk wa g 208 (u8c (fill65 65 [])).toArray) := Lib.hid (by rw [← hwa, ← hg, ← zeros65]; exact Blk.new _ _ _ _ rfl)
  have HW : Hid (Below w.heap.size w wa) := Lib.hid (by rw [← hwa]; exact below_alloc (Below.refl _ _) _)
  have HWA := Lib.hid hwa
  have HGE := Lib.hid hg
  clear hwa hg
  go_wp2_with fail
  rw [HWA.out, HGE.out]
  go_loopw [1, 13] (fun u1 u13 wr => ∃ (k i : Nat), i + k = 65 ∧ u13 = .int .i64 (i : Int) ∧ u1 = .int .u64 ((u / 16 ^ k : Nat) : Int) ∧ (∀ j, j < k → 16 ≤ u / 16 ^ j) ∧ Blk wr g 208 (u8c (fill65 i (hexk u k))).toArray ∧ Below w.heap.size w wr) (fun _ u13 _ => (intOf u13).toNat)
  case atStart => exact ⟨0, 65, rfl, rfl, by simp, by omega, HB.out, HW.out⟩
  case round =>
  obtain ⟨k, i, hik, rfl, rfl, hall, hb, hw⟩ := hrel
  have HALL := Lib.hid hall
  have HBK := Lib.hid hb
  have HBE := Lib.hid hw
  clear hall hb hw
  have hk15 : k ≤ 15 := by
    rcases Nat.eq_zero_or_pos k with h0 | h0
    · omega
    · have := hex_few u (k - 1) hu (HALL.out (k - 1) (by omega))
      omega
  obtain ⟨j, rfl⟩ : ∃ j, i = j + 1 := ⟨i - 1, by omega⟩
  rw [show (((j + 1 : Nat)) : Int) = (j : Int) + 1 from by omega]
  obtain ⟨x, hx⟩ : ∃ x, u / 16 ^ k = x := ⟨_, rfl⟩
  have hxu : x < 18446744073709551616 := by rw [← hx]; exact Nat.lt_of_le_of_lt (Nat.div_le_self _ _) hu
  have c0 : wr.cell? ⟨g, j, none⟩ = some (.int .u8 0) := HBK.out.of_cell (fill_at j _)
  have f0 : wr.frozen? ⟨g, j, none⟩ = false := HBK.out.frozen j
  have hgl := lt_of_cell c0
  rw [hx]
  have HX := Lib.hid hx
  clear hx
  by_cases hgo : 16 ≤ x
  · obtain ⟨d, hd⟩ : ∃ d, x % 16 = d := ⟨_, rfl⟩
    have hd16 : d < 16 := by omega
    have e1 : bits .and .u64 (x : Int) 15 = (d : Int) := by rw [bits_and15 x hxu, hd]
    have HDI := Lib.hid (digs_at d hd16)
    have HDX := Lib.hid hd
    clear hd
    go_wp2_with fail
    go_roundw
    case rel =>
      have hd2 : d < digs.size := by have : digs.size = 36 := rfl; omega
      have hb2 := HBK.out.set j (.int .u8 (digs[d]).toNat)
      have e2 : (Value.int .u8 ((digs[d]).toNat : Int)) = .int .u8 ((hexd d).toNat : Int) := by rw [HDI.out hd2]
      refine ⟨k + 1, j, by omega, by go_num, ?_, fun q hq => ?_, ?_, ?_⟩
      · rw [Nat.pow_succ, ← Nat.div_div_eq_div_mul, HX.out]
        go_num
      · by_cases h5 : q < k
        · exact HALL.out q h5
        · obtain rfl : q = k := by omega
          rw [HX.out]; exact hgo
      · rw [hexk, HX.out, HDX.out, ← fill_set, ← e2]; exact hb2
      · exact HBE.out.setCell (p := ⟨g, j, none⟩) (by rw [← HGE.out]; exact Nat.le_refl _) _
    case measure => simp [intOf]
  · have hx16 : x < 16 := by omega
    have hj64 : j ≤ 64 := by omega
    have hj65 : (j : Int) ≤ 65 := by omega
    have hd2 : x < digs.size := by have : digs.size = 36 := rfl; omega
    have hb2 : Blk (wr.setCell ⟨g, j, none⟩ (.int .u8 (digs[x]).toNat)) g 208 (u8c (fill65 j (hexd x :: hexk u k))).toArray := by
      have e2 : (Value.int .u8 ((digs[x]).toNat : Int)) = .int .u8 ((hexd x).toNat : Int) := by rw [digs_at x hx16 hd2]
      rw [← fill_set, ← e2]; exact HBK.out.set j (.int .u8 (digs[x]).toNat)
    have hcv := conv_any _ g _ _ hb2 j (65 - j) (65 - j) (by simp [fill65, hexk_len]; omega)
    have hres : ((fill65 j (hexd x :: hexk u k)).drop j).take (65 - j) = hexk u (hexn u) := by
      rw [hexn_eq k u HALL.out (by rw [HX.out]; exact hx16), hexk, HX.out, Nat.mod_eq_of_lt hx16, fill65, List.drop_left' (by simp), List.take_of_length_le (by simp [hexk_len]; omega)]
    rw [hres] at hcv
    have HBF : Hid (Below w.heap.size w (wr.setCell ⟨g, j, none⟩ (.int .u8 (digs[x]).toNat))) := Lib.hid (HBE.out.setCell (p := ⟨g, j, none⟩) (by rw [← HGE.out]; exact Nat.le_refl _) _)
    obtain ⟨w5, hw5⟩ : ∃ w5, (wr.setCell ⟨g, j, none⟩ (.int .u8 (digs[x]).toNat)) = w5 := ⟨_, rfl⟩
    rw [hw5] at hcv HBF
    unfold digs at hw5
    have HCV := Lib.hid hcv
    clear hb2 hres hik hcv
    go_upto_region 30 with (fail)
    refine (?_ : ∀ W', W' = w5 → Code.wp _ _ _ _ W') _ hw5
    clear hw5
    rintro _ rfl
    have hcv := HCV.out
    go_wp2
    go_ret2
    exact ⟨rfl, HBF.out⟩
end

section
open Go.RowKit

theorem fmt16i (u : Nat) (hu : u < 18446744073709551616) (w : World) (h : Tab64 w) :
    Calls Tryz.prog 164 #[.int .u64 u, .int .i64 16] w fun e w' => e = .returned (.string ⟨(hexk u (hexn u)).toArray⟩) ∧ Below w.heap.size w w' := by
  have H := Lib.hid (fmtbits u hu w h)
  clear h
  obtain ⟨r, hr⟩ : ∃ r, (⟨(hexk u (hexn u)).toArray⟩ : ByteArray) = r := ⟨_, rfl⟩
  rw [hr] at H ⊢
  clear hr
  go_enter Tryz.func164, Tryz.ntmps164
  go_wp2_with fail
  refine H.out.mono ?_
  rintro e w1 ⟨rfl, hb⟩
  go_wp2
  go_ret
  exact ⟨rfl, hb⟩
theorem fmt16 (u : Nat) (hu : u < 18446744073709551616) (w : World) (h : Tab64 w) :
    Calls Tryz.prog 150 #[.int .u64 u, .int .i64 16] w fun e w' => e = .returned (.string ⟨(hexk u (hexn u)).toArray⟩) ∧ Below w.heap.size w w' := by
  have H := Lib.hid (fmt16i u hu w h)
  clear h
  obtain ⟨r, hr⟩ : ∃ r, (⟨(hexk u (hexn u)).toArray⟩ : ByteArray) = r := ⟨_, rfl⟩
  rw [hr] at H ⊢
  clear hr
  go_enter Tryz.func150, Tryz.ntmps150
  go_wp2_with fail
  refine H.out.mono ?_
  rintro e w1 ⟨rfl, hb⟩
  go_wp2
  go_ret
  exact ⟨rfl, hb⟩

theorem hexn_le (u : Nat) (hu : u < 18446744073709551616) : 1 ≤ hexn u ∧ hexn u ≤ 16 := by
  have key : ∀ n u, u < 16 ^ (n + 1) → 1 ≤ hexn u ∧ hexn u ≤ n + 1 := by
    intro n
    induction n with
    | zero =>
      intro u h
      rw [hexn, dif_pos (by simpa using h)]
      omega
    | succ n ih =>
      intro u h
      by_cases h16 : u < 16
      · rw [hexn, dif_pos h16]; omega
      · rw [hexn, dif_neg h16]
        have := ih (u / 16) (by rw [Nat.pow_succ] at h; omega)
        omega
  have := key 15 u (by have : (16 : Nat) ^ (15 + 1) = 18446744073709551616 := by decide
                       rw [this]; exact hu)
  exact this
theorem hexn_zero (k u : Nat) (h : hexn u ≤ k) : u / 16 ^ k = 0 := by
  induction k generalizing u with
  | zero =>
    rw [hexn] at h
    split at h <;> omega
  | succ k ih =>
    rw [Nat.pow_succ', ← Nat.div_div_eq_div_mul]
    by_cases h16 : u < 16
    · rw [Nat.div_eq_of_lt h16, Nat.zero_div]
    · rw [hexn, dif_neg h16] at h
      exact ih (u / 16) (by omega)
theorem hex_pad (u n c : Nat) (h : hexn u ≤ n) : List.replicate c 48 ++ hexk u n = hexk u (n + c) := by
  induction c with
  | zero => rfl
  | succ c ih =>
    rw [List.replicate_succ, List.cons_append, ih, show n + (c + 1) = (n + c) + 1 from rfl, hexk, hexn_zero (n + c) u (by omega)]
    rfl

theorem repeat_one (c : UInt8) (n : Nat) : Lib.repeatL [c] n = List.replicate n c := by
  induction n with
  | zero => simp [Lib.repeatL]
  | succ n ih => simp_all [Lib.repeatL, List.replicate_succ]

/-- The state of the digest, and the digest. -/
def dgs (t : ByteArray) : UInt64 := absorb (1442695040888963407 ^^^ UInt64.ofNat t.size) t (t.size / 8 + 1)
def dg (t : ByteArray) : ByteArray := ⟨(hexk (dgs t).toNat 16).toArray⟩
theorem dg_size (t : ByteArray) : (dg t).size = 16 := hexk_len _ _

set_option maxHeartbeats 8000000 in
theorem sum_any (t : ByteArray) (ht : t.size ≤ 1000000000) (w : World) (h : Tab64 w) :
    Calls Tryz.prog 127 #[.string t] w fun e w' => e = .returned (.string (dg t)) ∧ Below w.heap.size w w' := by
  have HT := Lib.hid h
  obtain ⟨s0, hs0⟩ : ∃ s, 1442695040888963407 ^^^ UInt64.ofNat t.size = s := ⟨_, rfl⟩
  have e0 : bits .xor .u64 1442695040888963407 (t.size : Int) = (s0.toNat : Int) := by
    have h1 := bits_xor_u64 1442695040888963407 (UInt64.ofNat t.size)
    have h2 : ((UInt64.ofNat t.size).toNat : Int) = (t.size : Int) := by
      rw [UInt64.toNat_ofNat']; omega
    rw [h2, hs0] at h1
    exact h1
  obtain ⟨b, hb⟩ : ∃ b, w.heap.size = b := ⟨_, rfl⟩
  obtain ⟨wa, hwa⟩ : ∃ wa, w.alloc (.cells #[.int .u64 s0.toNat] 174) = wa := ⟨_, rfl⟩
  have hblk : Blk wa b 174 #[.int .u64 s0.toNat] := by rw [← hwa, ← hb]; exact Blk.new _ _ _ _ rfl
  have HBL := Lib.hid (blocks_any b s0 t wa (hblk.of_cell (i := 0) rfl) (hblk.frozen 0) ht)
  have HBW : Hid (Below w.heap.size w wa) := Lib.hid (by rw [← hwa]; exact below_alloc (Below.refl _ _) _)
  have HWA := Lib.hid hwa
  have HB := Lib.hid hb
  have HS0 := Lib.hid hs0
  clear hblk hs0 hwa hb h
  go_enter Tryz.func127, Tryz.ntmps127
  go_wp2_with fail
  rw [HWA.out, HB.out]
  refine HBL.out.mono ?_
  rintro e w1 ⟨rfl, hc, h1, _⟩
  have hb1 : Below w.heap.size w w1 := HBW.out.trans (hc.below (B := w.heap.size) (fun k hk => by rcases List.mem_singleton.1 hk with rfl; rw [← HB.out]; exact Nat.le_refl _) HBW.out.size)
  have HB1 := Lib.hid hb1
  obtain ⟨u, hu⟩ : ∃ u, (absorb s0 t (t.size / 8 + 1)).toNat = u := ⟨_, rfl⟩
  have hu64 : u < 18446744073709551616 := by rw [← hu]; exact (absorb s0 t (t.size / 8 + 1)).toNat_lt
  have HD : Hid (dg t = ⟨(hexk u 16).toArray⟩) := Lib.hid (by rw [dg, dgs, HS0.out, hu])
  rw [hu] at h1
  have hbl := lt_of_cell h1
  clear hu hc hb1
  have hfm := fmt16 u hu64 w1 (HT.out.below HB1.out)
  obtain ⟨hn1, hn2⟩ := hexn_le u hu64
  obtain ⟨n, hn⟩ : ∃ n, hexn u = n := ⟨_, rfl⟩
  obtain ⟨r, hr⟩ : ∃ r, (⟨(hexk u n).toArray⟩ : ByteArray) = r := ⟨_, rfl⟩
  have hrz : r.size = n := by rw [← hr]; exact hexk_len _ _
  rw [hn] at hn1 hn2 hfm
  rw [hr] at hfm
  obtain ⟨c, hcn⟩ : ∃ c, n + c = 16 := ⟨16 - n, by omega⟩
  have hrs : (16 : Int) - (r.size : Int) = (c : Int) := by omega
  have hrl : r.size ≤ 16 := by omega
  have HRE : Hid ((⟨(Lib.repeatL [48] c).toArray⟩ : ByteArray) ++ r = dg t) := Lib.hid (by
    rw [HD.out, ← hr, repeat_one, ← hcn]
    apply ByteArray.ext
    rw [ByteArray.data_append]
    apply Array.toList_inj.1
    rw [Array.toList_append]
    exact hex_pad u n c (by omega))
  have HFM := Lib.hid hfm
  have hcl : c ≤ 16 := by omega
  have hrep := Tryz.strings_Repeat ⟨#[48]⟩ c
  obtain ⟨p, hp⟩ : ∃ p, (⟨(Lib.repeatL [48] c).toArray⟩ : ByteArray) = p := ⟨_, rfl⟩
  have hpz : p.size ≤ 16 := by
    rw [← hp]
    show (Lib.repeatL [48] c).length ≤ 16
    rw [repeat_one, List.length_replicate]; exact hcl
  rw [hp] at HRE
  have HREP : Hid (∀ w, Calls Tryz.prog 151 #[.string ⟨#[48]⟩, .int .i64 c] w fun e w' => e = .returned (.string p) ∧ Below w.heap.size w w') := Lib.hid (fun w => by
    rw [← hp]
    exact hrep w (by omega) (by show 1 * c ≤ _; omega))
  have HRS := Lib.hid hrs
  clear hfm hn hr hrz hcn hn1 hn2 hp hrep hrs
  go_wp2_with fail
  refine HFM.out.mono ?_
  rintro e w2 ⟨rfl, hb2⟩
  have HB2 := Lib.hid (below_trans HB1.out hb2)
  clear hb2
  go_wp2_with fail
  rw [HRS.out]
  refine (HREP.out _).mono ?_
  rintro e w3 ⟨rfl, hb3⟩
  have HB3 := Lib.hid (below_trans HB2.out hb3)
  clear hb3
  go_wp2
  go_ret
  rw [HRE.out]
  exact ⟨rfl, HB3.out⟩
end

section
open Go.RowKit

abbrev bp (b : Nat) : Value := .pointer (some ⟨b, 0, none⟩)
abbrev BAt (B b : Nat) (p : Value) (l : List UInt8) (w : World) : Prop := Go.Lib.BuilderAt 152 5 B b p (Go.Lib.byteCells l) w
abbrev IsB (B b : Nat) (l : List UInt8) (w : World) : Prop := Go.Lib.IsBuilder 152 5 B b (Go.Lib.byteCells l) w

theorem bat_below {B b : Nat} {p : Value} {l : List UInt8} {w w' : World} (h : BAt B b p l w) (hb : Below w.heap.size w w') : BAt B b p l w' := by
  obtain ⟨h1, v, h2, h3, h4⟩ := h
  refine ⟨h1, v, (hb.block b (Array.getElem?_eq_some_iff.1 h2).1).trans h2, ?_, h4⟩
  refine ⟨h3.1, ?_⟩
  rcases h3.2 with hn | ⟨g, cap, cur, rfl, hb', hg, rest⟩
  · exact .inl hn
  · exact .inr ⟨g, cap, cur, rfl, hb', (hb.block g (Array.getElem?_eq_some_iff.1 hg).1).trans hg, rest⟩
theorem isb_below {B b : Nat} {l : List UInt8} {w w' : World} (h : IsB B b l w) (hb : Below w.heap.size w w') : IsB B b l w' := by
  rcases h with h | h
  · exact .inl (bat_below h hb)
  · exact .inr (bat_below h hb)

theorem size_builder : (Tryz.prog.info? 152).map (·.size) = some 2 := by kernel_rfl
theorem lies_builder : liesAt Tryz.prog Tryz.prog.depth 152 (2 / Tryz.prog.cellsOf 152) 0 152 1 = true := by kernel_rfl
theorem info_byte : (Tryz.prog.info? 5).map (fun i => (i.zero, i.size, i.bytes)) = some (some (.int .u8 0), 1, 1) := by kernel_rfl

set_option maxRecDepth 100000 in
set_option maxHeartbeats 2000000 in
theorem check_used (b : Nat) (w : World) (h0 : w.cell? ⟨b, 0, none⟩ = some (bp b)) :
    Calls Tryz.prog 147 #[bp b] w fun e w' => e = .returned (.tuple #[]) ∧ w = w' := by
  obtain ⟨j, hj, _⟩ := Option.map_eq_some_iff.1 size_builder
  have hne := Go.Lib.run_neq_ptr_same (P := Tryz.prog) w ⟨b, 0, none⟩ Tryz.underlying150 hj
  go_enter Tryz.func147, Tryz.ntmps147
  go_wp2
  try rw [hne]
  go_wp2
  go_end0
  exact ⟨rfl, rfl⟩

set_option maxRecDepth 100000 in
set_option maxHeartbeats 2000000 in
theorem check_fresh (b : Nat) (w : World) (h0 : w.cell? ⟨b, 0, none⟩ = some (.pointer none)) (hsh : w.shape? b = some (152, 2)) (hfz : w.frozen? ⟨b, 0, none⟩ = false) :
    Calls Tryz.prog 147 #[bp b] w fun e w' => e = .returned (.tuple #[]) ∧ w' = w.setCell ⟨b, 0, none⟩ (bp b) := by
  obtain ⟨j, hj, hjs⟩ := Option.map_eq_some_iff.1 size_builder
  go_enter Tryz.func147, Tryz.ntmps147
  go_wp2
  rw [Go.Lib.run_to_unsafe w ⟨b, 0, none⟩ Tryz.underlying150 Tryz.underlying184 hj (by rw [hjs]; decide) hsh (Nat.zero_lt_succ 1)]
  simp only [Result.andThen]
  rw [Oper.upon_value]
  go_wp2
  rw [run_callFunc_extern Tryz.func163 (by kernel_rfl) (by kernel_rfl) (by kernel_rfl) (e := Extern.AbiNoEscape.same) (by kernel_rfl)]
  rw [Go.Lib.run_noEscape]
  simp only [Result.andThen]
  rw [Oper.upon_value]
  go_wp2
  rw [Go.Lib.run_from_unsafe w ⟨b, 0, none⟩ Tryz.underlying184 Tryz.underlying150 hj hsh lies_builder]
  simp only [Result.andThen]
  rw [Oper.upon_value]
  go_wp2
  go_end0
  exact ⟨rfl, rfl⟩

theorem check_any (B b : Nat) (l : List UInt8) (w : World) (h : IsB B b l w) :
    Calls Tryz.prog 147 #[bp b] w fun e w' => e = .returned (.tuple #[]) ∧ BAt B b (bp b) l w' ∧ Below B w w' := by
  rcases h with h | h
  · refine (check_fresh b w h.cell0 h.shape h.frozen0).mono ?_
    rintro e w' ⟨rfl, rfl⟩
    exact ⟨rfl, h.used _, (Below.refl B w).setCell (p := ⟨b, 0, none⟩) h.1 _⟩
  · refine (check_used b w h.cell0).mono ?_
    rintro e w' ⟨rfl, rfl⟩
    exact ⟨rfl, h, Below.refl B _⟩

theorem byteCells_app (l m : List UInt8) : Go.Lib.byteCells l ++ Go.Lib.byteCells m = Go.Lib.byteCells (l ++ m) := by simp [Go.Lib.byteCells]

set_option maxRecDepth 100000 in
set_option maxHeartbeats 4000000 in
theorem wstring (B b : Nat) (l : List UInt8) (s : ByteArray) (w : World) (h : IsB B b l w) (hlen : l.length + s.size ≤ 1000000000) (hBw : B ≤ w.heap.size) :
    Calls Tryz.prog 125 #[bp b, .string s] w fun e w' => e = .returned (.tuple #[.int .i64 s.size, .nilIface]) ∧ IsB B b (l ++ s.data.toList) w' ∧ Below B w w' := by
  obtain ⟨i0, hi, hz0, hz1, hz2⟩ := info_parts info_byte
  have HI := Lib.hid (And.intro hi (And.intro hz0 (And.intro hz1 hz2)))
  have hbl : (Go.Lib.byteCells l).length = l.length := by simp [Go.Lib.byteCells]
  have HBL := Lib.hid hbl
  have HC := Lib.hid (check_any B b l w h)
  clear hi hz0 hz1 hz2 hbl h
  go_enter Tryz.func125, Tryz.ntmps125
  go_wp2_with fail
  refine HC.out.mono ?_
  rintro e w1 ⟨rfl, h1, hb1⟩
  obtain ⟨hB, v, hbk, hown, hne⟩ := h1
  have c1 : w1.cell? ⟨b, 1, none⟩ = some v := by rw [Go.Lib.cell_of_heap hbk]; rfl
  have hlb := lt_of_cell c1
  have HOWN := Lib.hid hown
  have HNE := Lib.hid hne
  have HBK := Lib.hid hbk
  have HB1 := Lib.hid hb1
  have hbw1 : B ≤ w1.heap.size := Nat.le_trans hBw hb1.size
  clear hown hne hbk hb1
  go_wp2_with (at_builtin; refine Go.Lib.wpList_append_own_string _ rfl _ _ 146 9 rfl B 5 i0 Tryz.underlying146 Tryz.underlying9 HI.out.1 HI.out.2.1 HI.out.2.2.1 HI.out.2.2.2 _ _ _ rfl HOWN.out s rfl (by rw [HBL.out]; unfold maxLen; omega) (by rw [HBL.out]; omega) hbw1 ?_)
  intro v' w2 hown' hgrow _
  have hb2 : w2.heap[b]? = some (.cells #[bp b, v] 152 (0, 0)) := by
    rw [hgrow.block b hlb (fun e => HNE.out e.symm)]
    exact HBK.out
  have d1 : w2.cell? ⟨b, 1, none⟩ = some v := by rw [Go.Lib.cell_of_heap hb2]; rfl
  have f1 : w2.frozen? ⟨b, 1, none⟩ = false := Go.Lib.frozen_of_heap hb2 1
  have hlb2 := lt_of_cell d1
  obtain ⟨ao, n', cap, rfl⟩ : ∃ ao n' cap, v' = .slice ao n' cap := by
    rcases hown'.2 with ⟨hv, _⟩ | ⟨g, cap, cur, hv, _⟩
    · exact ⟨_, _, _, hv⟩
    · exact ⟨_, _, _, hv⟩
  have hfin : IsB B b (l ++ s.data.toList) (w2.setCell ⟨b, 1, none⟩ (.slice ao n' cap)) := .inr (by
    have h5 := Go.Lib.BuilderAt.put (T := 152) (e := 5) hB hb2 (bs' := Go.Lib.byteCells l ++ Go.Lib.strCells s) (by simpa [Go.Lib.strCells_length] using hown') (by decide)
    have e : Go.Lib.byteCells l ++ Go.Lib.strCells s = Go.Lib.byteCells (l ++ s.data.toList) := by rw [← byteCells_app]; rfl
    rw [e] at h5
    exact h5)
  have hbf : Below B w (w2.setCell ⟨b, 1, none⟩ (.slice ao n' cap)) := (HB1.out.grown hgrow (by omega) (fun k hk => (HOWN.out.lt k hk).1)).setCell (p := ⟨b, 1, none⟩) hB _
  have HFIN := Lib.hid (And.intro hfin hbf)
  clear hown' hgrow hb2 hfin hbf c1
  go_wp2
  go_ret2
  exact ⟨rfl, HFIN.out⟩

set_option maxRecDepth 100000 in
set_option maxHeartbeats 4000000 in
theorem wbyte (B b : Nat) (l : List UInt8) (c : UInt8) (w : World) (h : IsB B b l w) (hlen : l.length + 1 ≤ 1000000000) (hBw : B ≤ w.heap.size) :
    Calls Tryz.prog 126 #[bp b, .int .u8 c.toNat] w fun e w' => e = .returned .nilIface ∧ IsB B b (l ++ [c]) w' ∧ Below B w w' := by
  obtain ⟨i0, hi, hz0, hz1, hz2⟩ := info_parts info_byte
  have HI := Lib.hid (And.intro hi (And.intro hz0 (And.intro hz1 hz2)))
  have hbl : (Go.Lib.byteCells l).length = l.length := by simp [Go.Lib.byteCells]
  have HBL := Lib.hid hbl
  have HC := Lib.hid (check_any B b l w h)
  clear hi hz0 hz1 hz2 hbl h
  go_enter Tryz.func126, Tryz.ntmps126
  go_wp2_with fail
  refine HC.out.mono ?_
  rintro e w1 ⟨rfl, h1, hb1⟩
  obtain ⟨hB, v, hbk, hown, hne⟩ := h1
  have c1 : w1.cell? ⟨b, 1, none⟩ = some v := by rw [Go.Lib.cell_of_heap hbk]; rfl
  have hlb := lt_of_cell c1
  have HOWN := Lib.hid hown
  have HNE := Lib.hid hne
  have HBK := Lib.hid hbk
  have HB1 := Lib.hid hb1
  have hbw1 : B ≤ w1.heap.size := Nat.le_trans hBw hb1.size
  clear hown hne hbk hb1
  go_wp2_with (at_builtin; refine wpList_append_own _ rfl _ _ 146 rfl B 5 i0 (.int .u8 0) 1 1 Tryz.underlying146 HI.out.1 HI.out.2.1 HI.out.2.2.1 HI.out.2.2.2 rfl (by decide) _ _ _ rfl (HOWN.out.alloc _) ⟨w1.heap.size, 0, none⟩ 1 1 [.int .u8 c.toNat] rfl rfl ?c1 ?c2 ?c3 ?c4 ?c5 ?_)
  case c1 =>
    intro j u hj
    match j, hj with
    | 0, hj => simp at hj; subst hj; simp [Addr.add]
  case c2 => intro u hu; simp at hu; subst hu; rfl
  case c3 => rw [HBL.out]; unfold maxLen; omega
  case c4 => rw [HBL.out]; omega
  case c5 => simp; omega
  intro v' w2 hown' hgrow _
  have hb2 : w2.heap[b]? = some (.cells #[bp b, v] 152 (0, 0)) := by
    rw [hgrow.block b (by simp; omega) (fun e => HNE.out e.symm), Go.Lib.alloc_old w1 _ b hlb]
    exact HBK.out
  have d1 : w2.cell? ⟨b, 1, none⟩ = some v := by rw [Go.Lib.cell_of_heap hb2]; rfl
  have f1 : w2.frozen? ⟨b, 1, none⟩ = false := Go.Lib.frozen_of_heap hb2 1
  have hlb2 := lt_of_cell d1
  obtain ⟨ao, n', cap, rfl⟩ : ∃ ao n' cap, v' = .slice ao n' cap := by
    rcases hown'.2 with ⟨hv, _⟩ | ⟨g, cap, cur, hv, _⟩
    · exact ⟨_, _, _, hv⟩
    · exact ⟨_, _, _, hv⟩
  have hfin : IsB B b (l ++ [c]) (w2.setCell ⟨b, 1, none⟩ (.slice ao n' cap)) := .inr (by
    have h5 := Go.Lib.BuilderAt.put (T := 152) (e := 5) hB hb2 (bs' := Go.Lib.byteCells l ++ [.int .u8 c.toNat]) (by simpa using hown') (by decide)
    have e : Go.Lib.byteCells l ++ [.int .u8 c.toNat] = Go.Lib.byteCells (l ++ [c]) := by rw [← byteCells_app]; rfl
    rw [e] at h5
    exact h5)
  have hbf : Below B w (w2.setCell ⟨b, 1, none⟩ (.slice ao n' cap)) := ((HB1.out.alloc hbw1 _).grown hgrow (by simp; omega) (fun k hk => (HOWN.out.lt k hk).1)).setCell (p := ⟨b, 1, none⟩) hB _
  have HFIN := Lib.hid (And.intro hfin hbf)
  clear hown' hgrow hb2 hfin hbf c1
  go_wp2
  go_ret
  exact ⟨rfl, HFIN.out⟩
end

section
open Go.RowKit

def Strs (w : World) (A : Option Addr) (xs : List ByteArray) : Prop := Rd w 1 A xs.length (xs.map Value.string)

theorem Strs.below {w w' : World} {A : Option Addr} {xs : List ByteArray} (h : Strs w A xs) (hb : Below w.heap.size w w') : Strs w' A xs := Rd.below h hb

theorem Strs.at_ {w : World} {A : Option Addr} {xs : List ByteArray} (h : Strs w A xs) {k : Nat} {x : ByteArray} (hk : xs[k]? = some x) :
    ∃ b off, A = some ⟨b, off, none⟩ ∧ w.cell? ⟨b, off + k, none⟩ = some (.string x) := by
  have hl : k < xs.length := (List.getElem?_eq_some_iff.1 hk).1
  obtain ⟨b, off, e, hc⟩ := h.2 (by omega)
  exact ⟨b, off, e, hc k _ (by simp [hk])⟩

theorem Strs_new (w : World) (cs : Array Value) (T g : Nat) (l : List ByteArray) (h : cs.toList = l.map Value.string) (hg : g = w.heap.size) : Strs (w.alloc (.cells cs T)) (some ⟨g, 0, none⟩) l := by
  unfold Strs
  rw [← h]
  exact Rd_new w cs T 1 l.length g (by rw [← Array.length_toList, h]; simp) hg
end

section
open Go.RowKit

/-- The tables that the library reads. -/
structure Tabs (w : World) : Prop where
  t64 : Tab64 w
  p10 : Go.Lib.TabIs Tryz.prog w "internal/strconv.uint64pow10" .u64 Go.Lib.pow10Tab

theorem var_below {w w' : World} {P : Program} {n : String} {cs : Array Value} (h : w.var? P n = some cs) (hb : Below w.heap.size w w') : w'.var? P n = some cs := by
  unfold World.var? at h ⊢
  cases hg : P.globalNamed n with
  | none => rw [hg] at h; cases h
  | some g =>
    rw [hg] at h
    have h' : (match w.heap[g]? with | some (.cells cs _ _) => some cs | _ => none) = some cs := h
    have hlt : g < w.heap.size := by
      rcases Nat.lt_or_ge g w.heap.size with h1 | h1
      · exact h1
      · rw [Array.getElem?_eq_none h1] at h'; cases h'
    show (match w'.heap[g]? with | some (.cells cs _ _) => some cs | _ => none) = some cs
    rw [hb.block g hlt]; exact h'
theorem Tabs.below {w w' : World} (h : Tabs w) (hb : Below w.heap.size w w') : Tabs w' := ⟨h.t64.below hb, var_below h.p10 hb⟩

theorem below_grow (w : World) (k : Nat) (os : Array Obj) : Below w.heap.size w (Go.Sort.grow (w.drewN k) os) := by
  refine ⟨rfl, rfl, rfl, ?_, fun j hj => ?_⟩
  · show w.heap.size ≤ (w.heap ++ os).size
    rw [Array.size_append]; omega
  · show (w.heap ++ os)[j]? = w.heap[j]?
    rw [Array.getElem?_append_left hj]

def dec (n : Nat) : ByteArray := ⟨(Go.Lib.decDigits n).toArray⟩
theorem itoa_any (n : Nat) (hn : n ≤ 9223372036854775807) (w : World) (h : Tabs w) :
    Calls Tryz.prog 97 #[.int .i64 n] w fun e w' => e = .returned (.string (dec n)) ∧ Below w.heap.size w w' := by
  refine (Tryz.strconv_Itoa n (by omega) (by omega) w h.p10).mono ?_
  rintro e w' ⟨rfl, k, os, rfl⟩
  refine ⟨?_, below_grow w k os⟩
  rw [dec, Go.Lib.itoa, if_neg (by omega), Int.toNat_natCast]

def one (s : ByteArray) : List UInt8 := Go.Lib.decDigits s.size ++ [58] ++ s.data.toList
def jn (l : List ByteArray) : List UInt8 := l.flatMap one
theorem jn_snoc {l : List ByteArray} {k : Nat} {s : ByteArray} (h : l[k]? = some s) : jn (l.take (k + 1)) = jn (l.take k) ++ Go.Lib.decDigits s.size ++ [58] ++ s.data.toList := by
  rw [take_snoc l k s h, jn, List.flatMap_append]
  simp [jn, one, List.append_assoc]
theorem jn_le (l : List ByteArray) (k : Nat) : (jn (l.take k)).length ≤ (jn l).length := by
  have e : jn l = jn (l.take k) ++ jn (l.drop k) := by
    unfold jn
    rw [← List.flatMap_append, List.take_append_drop]
  rw [e, List.length_append]; omega

set_option maxHeartbeats 8000000 in
theorem list_any (A : Option Addr) (c : Nat) (l : List ByteArray) (w : World) (h : Strs w A l) (hT : Tabs w) (hl : (jn l).length ≤ 1000000) (hll : l.length ≤ 1000000) :
    Calls Tryz.prog 96 #[.slice A l.length c] w fun e w' => e = .returned (.string (dg ⟨(jn l).toArray⟩)) ∧ Below w.heap.size w w' := by
  obtain ⟨b, hb⟩ : ∃ b, w.heap.size = b := ⟨_, rfl⟩
  obtain ⟨wa, hwa⟩ : ∃ wa, w.alloc (.cells #[.pointer none, .slice none 0 0] 152) = wa := ⟨_, rfl⟩
  have HA : Hid (∀ w', Below w.heap.size w w' → Strs w' A l) := fun w' hb => h.below hb
  have HT : Hid (∀ w', Below w.heap.size w w' → Tabs w') := fun w' hb => hT.below hb
  have HB0 : Hid (Below w.heap.size w wa) := Lib.hid (by rw [← hwa]; exact below_alloc (Below.refl _ _) _)
  have HI0 : Hid (IsB b b [] wa) := Lib.hid (.inl ⟨Nat.le_refl _, .slice none 0 0, by rw [← hwa, ← hb]; exact heap_alloc_new w _, ⟨rfl, .inl ⟨rfl, rfl⟩⟩, by simp [Value.ownBlock]⟩)
  have HWA := Lib.hid hwa
  have HB := Lib.hid hb
  clear h hT hwa hb
  go_enter Tryz.func96, Tryz.ntmps96
  go_wp2_with fail
  rw [HWA.out, HB.out]
  go_loopw [8] (fun u8 wr => ∃ k : Nat, k ≤ l.length ∧ u8 = .int .i64 k ∧ Below w.heap.size w wr ∧ IsB b b (jn (l.take k)) wr) (fun u8 _ => l.length - (intOf u8).toNat)
  case atStart => exact ⟨0, Nat.zero_le _, rfl, HB0.out, HI0.out⟩
  case round =>
  obtain ⟨k, hk, rfl, hbw, hib⟩ := hrel
  have HBW := Lib.hid hbw
  have HIB := Lib.hid hib
  have hbs : b ≤ wr.heap.size := by rw [← HB.out]; exact hbw.size
  have HBS := Lib.hid hbs
  clear hbw hib hbs
  by_cases hlt : k < l.length
  · obtain ⟨s, hs⟩ := get_some l k hlt
    obtain ⟨bs, off, rfl, hc⟩ := (HA.out _ HBW.out).at_ hs
    have hsn := jn_snoc hs
    have hle := jn_le l (k + 1)
    have hle0 := jn_le l k
    have hsz : (jn (l.take k)).length + (Go.Lib.decDigits s.size).length + 1 + s.size ≤ 1000000 := by
      rw [hsn] at hle
      simp only [List.length_append, List.length_cons, List.length_nil] at hle
      have : s.data.toList.length = s.size := rfl
      omega
    have HSN := Lib.hid hsn
    have HSZ := Lib.hid hsz
    have hss : s.size ≤ 1000000 := by omega
    have HIT := Lib.hid (itoa_any s.size (by omega) wr (HT.out _ HBW.out))
    clear hs hsn hle hle0 hsz
    go_wp2_with fail
    refine HIT.out.mono ?_
    rintro e w1 ⟨rfl, hb1⟩
    have HW1 := Lib.hid (below_trans HBW.out hb1)
    have HI1 := Lib.hid (isb_below HIB.out hb1)
    clear hb1
    go_wp2_with fail
    refine (wstring b b _ (dec s.size) w1 HI1.out (by have := HSZ.out; show _ + (Go.Lib.decDigits s.size).length ≤ _; omega) (by rw [← HB.out]; exact HW1.out.size)).mono ?_
    rintro e w2 ⟨rfl, hi2, hb2⟩
    have HW2 := Lib.hid (HW1.out.trans (by rw [HB.out]; exact hb2))
    have HI2 : Hid (IsB b b (jn (l.take k) ++ Go.Lib.decDigits s.size) w2) := Lib.hid hi2
    clear hi2 hb2
    go_wp2_with fail
    refine (wbyte b b _ 58 w2 HI2.out (by have := HSZ.out; rw [List.length_append]; omega) (by rw [← HB.out]; exact HW2.out.size)).mono ?_
    rintro e w3 ⟨rfl, hi3, hb3⟩
    have HW3 := Lib.hid (HW2.out.trans (by rw [HB.out]; exact hb3))
    have HI3 := Lib.hid hi3
    clear hi3 hb3
    go_wp2_with fail
    refine (wstring b b _ s w3 HI3.out (by have := HSZ.out; rw [List.length_append, List.length_append, List.length_singleton]; omega) (by rw [← HB.out]; exact HW3.out.size)).mono ?_
    rintro e w4 ⟨rfl, hi4, hb4⟩
    have HW4 := Lib.hid (HW3.out.trans (by rw [HB.out]; exact hb4))
    have HI4 : Hid (IsB b b (jn (l.take (k + 1))) w4) := Lib.hid (by rw [HSN.out]; exact hi4)
    clear hi4 hb4
    go_wp2_with fail
    go_roundw
    case rel => exact ⟨k + 1, by omega, by go_num, HW4.out, HI4.out⟩
    case measure => simp [intOf]; omega
  · obtain rfl : k = l.length := by omega
    rw [List.take_length] at HIB
    obtain ⟨t, ht⟩ : ∃ t, (⟨(jn l).toArray⟩ : ByteArray) = t := ⟨_, rfl⟩
    have htz : t.size ≤ 1000000000 := by
      rw [← ht]; show (jn l).length ≤ _; omega
    have HST := Lib.hid (Tryz.Builder_String_any b b (jn l) wr HIB.out HBS.out)
    rw [ht] at HST
    have HTE := Lib.hid ht
    clear ht
    go_wp2_with fail
    refine HST.out.mono ?_
    rintro e w1 ⟨rfl, hb1⟩
    have HW1 := Lib.hid (HBW.out.trans (by rw [HB.out]; exact hb1))
    clear hb1
    go_wp2_with fail
    refine (sum_any t htz w1 (HT.out _ HW1.out).t64).mono ?_
    rintro e w2 ⟨rfl, hb2⟩
    have HW2 := Lib.hid (below_trans HW1.out hb2)
    clear hb2
    go_wp2
    go_ret
    exact ⟨congrArg (fun x => Ending.returned (.string (dg x))) HTE.out.symm, HW2.out⟩


/-! ### Is -/
def hexs : ByteArray := ⟨#[48, 49, 50, 51, 52, 53, 54, 55, 56, 57, 97, 98, 99, 100, 101, 102]⟩
def isD (t : ByteArray) : Bool := decide (t.size = 16) && t.data.toList.all (hexs.data.toList.contains ·)

theorem dw_empty (p : UInt8 → Bool) (l : List UInt8) : (l.dropWhile p).isEmpty = l.all p := by
  induction l with
  | nil => rfl
  | cons a l ih =>
    rw [List.dropWhile_cons, List.all_cons]
    cases h : p a
    · simp
    · simp [ih]
theorem dw_all (p : UInt8 → Bool) (l : List UInt8) : (l.dropWhile p).all p = l.all p := by
  induction l with
  | nil => rfl
  | cons a l ih =>
    rw [List.dropWhile_cons, List.all_cons]
    cases h : p a
    · simp [h]
    · simp [ih]
theorem trim_nil (l cs : List UInt8) : (Go.Lib.trimS l cs).isEmpty = l.all (cs.contains ·) := by
  rw [Go.Lib.trimS, Go.Lib.trimLeftS, Go.Lib.trimRightS, dw_empty, List.all_reverse, dw_all, List.all_reverse]

set_option maxHeartbeats 4000000 in
theorem is_any (t : ByteArray) (w : World) (ht : t.size ≤ 1000000000) :
    Calls Tryz.prog 64 #[.string t] w fun e w' => e = .returned (.bool (isD t)) ∧ Below w.heap.size w w' := by
  have h116 : (Tryz.prog.info? (Tryz.lays160_ren.t 116)).map (fun i => (i.zero, i.size)) = some (some (.agg (Array.replicate 256 (.bool false))), 256) := by kernel_rfl
  have htr := Any.strings_Trim_laid Tryz.lays160 h116 t hexs w (by omega) (by decide) (ascii_of_all (by decide))
  have hte := trim_nil t.data.toList hexs.data.toList
  obtain ⟨r, hr⟩ : ∃ r, (⟨(Go.Lib.trimS t.data.toList hexs.data.toList).toArray⟩ : ByteArray) = r := ⟨_, rfl⟩
  have hri : r.toList.isEmpty = t.data.toList.all (hexs.data.toList.contains ·) := by
    rw [← hte, ← hr, ByteArray.toList_eq]
  obtain ⟨v, hv⟩ : ∃ v, t.data.toList.all (hexs.data.toList.contains ·) = v := ⟨_, rfl⟩
  rw [hr] at htr
  rw [hv] at hri
  have HTR := Lib.hid htr
  by_cases h16 : t.size = 16
  · have hres : isD t = v := by rw [isD, hv, h16]; simp
    have HR := Lib.hid hres
    have e1 : ((t.size : Int) == 16) = true := by rw [h16]; rfl
    have hri2 : r.toList.isEmpty = v := hri
    clear hri htr hte hr hv h116 hres h16
    cases v with
    | true =>
      go_enter Tryz.func64, Tryz.ntmps64
      go_wp2_with fail
      refine HTR.out.mono ?_
      rintro e w1 ⟨rfl, hb⟩
      have HB := Lib.hid hb
      clear hb
      go_wp2
      go_ret
      rw [HR.out]
      exact ⟨rfl, HB.out⟩
    | false =>
      go_enter Tryz.func64, Tryz.ntmps64
      go_wp2_with fail
      refine HTR.out.mono ?_
      rintro e w1 ⟨rfl, hb⟩
      have HB := Lib.hid hb
      clear hb
      go_wp2
      go_ret
      rw [HR.out]
      exact ⟨rfl, HB.out⟩
  · have hres : isD t = false := by rw [isD, decide_eq_false h16]; rfl
    have HR := Lib.hid hres
    have e1 : ((t.size : Int) == 16) = false := by simp; omega
    clear hri htr hte hr hv h116 hres h16
    go_enter Tryz.func64, Tryz.ntmps64
    go_wp2
    go_ret
    rw [HR.out]
    exact ⟨rfl, Below.refl _ _⟩
end

section
open Go.RowKit

theorem beq_bytes (a b : ByteArray) : (a.toList == b.toList) = decide (a = b) := by
  rw [ByteArray.toList_eq, ByteArray.toList_eq]
  by_cases h : a = b
  · subst h; simp
  · simp only [h, decide_false, beq_eq_false_iff_ne, ne_eq]
    intro e
    exact h (ByteArray.ext (Array.toList_inj.1 e))
theorem beq_true (a : ByteArray) : (a.toList == a.toList) = true := by simp
theorem bne_of (a b : ByteArray) (h : a ≠ b) : (a.toList == b.toList) = false ∧ (a.toList != b.toList) = true := by
  have e : (a.toList == b.toList) = false := by rw [beq_bytes, decide_eq_false h]
  exact ⟨e, by rw [bne, e]; rfl⟩

theorem hexd_inj (a b : Nat) (ha : a < 16) (hb : b < 16) (h : hexd a = hexd b) : a = b := by
  have h1 := congrArg UInt8.toNat h
  unfold hexd at h1
  split at h1 <;> split at h1 <;> simp only [UInt8.toNat_ofNat'] at h1 <;> omega
theorem hexk_inj (k u v : Nat) (h : hexk u k = hexk v k) : u % 16 ^ k = v % 16 ^ k := by
  induction k with
  | zero => simp [Nat.mod_one]
  | succ k ih =>
    rw [hexk, hexk] at h
    injection h with h1 h2
    have h3 := hexd_inj _ _ (Nat.mod_lt _ (by omega)) (Nat.mod_lt _ (by omega)) h1
    rw [Nat.pow_succ, Nat.mod_mul, Nat.mod_mul, ih h2, h3]
theorem dg_eq (a b : ByteArray) : dg a = dg b ↔ dgs a = dgs b := by
  constructor
  · intro h
    have h1 : (hexk (dgs a).toNat 16).toArray = (hexk (dgs b).toNat 16).toArray := congrArg ByteArray.data h
    have h2 : hexk (dgs a).toNat 16 = hexk (dgs b).toNat 16 := by simpa using h1
    have h3 := hexk_inj 16 _ _ h2
    have h4 : (16 : Nat) ^ 16 = 18446744073709551616 := by decide
    have h5 := (dgs a).toNat_lt
    have h6 := (dgs b).toNat_lt
    rw [h4, Nat.mod_eq_of_lt h5, Nat.mod_eq_of_lt h6] at h3
    exact UInt64.toNat_inj.1 h3
  · intro h
    rw [dg, dg, h]

def sx : ByteArray := ⟨#[120]⟩
def s0_ : ByteArray := ⟨#[0]⟩
def s1_ : ByteArray := ⟨#[1]⟩
def se : ByteArray := ⟨#[]⟩
def hexF : ByteArray := ⟨#[48, 49, 50, 51, 52, 53, 54, 55, 56, 57, 97, 98, 99, 100, 101, 70]⟩
def lab : List ByteArray := [⟨#[97]⟩, ⟨#[98, 99]⟩]
theorem head_is1 : isD hexs = true := by decide
theorem head_is2 : isD hexF = false := by decide
theorem head_is3 : isD se = false := by decide
theorem head_jn : jn lab = [49, 58, 97, 50, 58, 98, 99] := by
  have h1 : Go.Lib.decDigits 1 = [49] := by rw [Go.Lib.decDigits]; rfl
  have h2 : Go.Lib.decDigits 2 = [50] := by rw [Go.Lib.decDigits]; rfl
  show (Go.Lib.decDigits 1 ++ [58] ++ [97]) ++ ((Go.Lib.decDigits 2 ++ [58] ++ [98, 99]) ++ []) = _
  rw [h1, h2]; rfl
theorem head_0 : dg se ≠ dg s0_ := fun h => absurd ((dg_eq _ _).1 h) (by decide +kernel)
theorem head_1 : dg s1_ ≠ dg se := fun h => absurd ((dg_eq _ _).1 h) (by decide +kernel)
end

section
open Go.RowKit

/-! ### the form -/
theorem hexd_in (n : Nat) (h : n < 16) : hexs.data.toList.contains (hexd n) = true := by
  have key : ((List.range 16).all fun n => hexs.data.toList.contains (hexd n)) = true := by decide
  exact List.all_eq_true.1 key n (List.mem_range.2 h)
theorem hexk_in (u k : Nat) : (hexk u k).all (hexs.data.toList.contains ·) = true := by
  induction k with
  | zero => rfl
  | succ k ih => rw [hexk, List.all_cons, hexd_in _ (Nat.mod_lt _ (by omega)), ih]; rfl
theorem isD_dg (t : ByteArray) : isD (dg t) = true := by
  have h1 : (dg t).data.toList = hexk (dgs t).toNat 16 := by simp [dg]
  rw [isD, dg_size, h1, hexk_in]; rfl

/-! ### mixing loses nothing -/
theorem xor_zero_eq (x y : Nat) (h : x ^^^ y = 0) : x = y := by
  have h1 : x ^^^ (x ^^^ y) = y := by rw [← Nat.xor_assoc, Nat.xor_self, Nat.zero_xor]
  rw [h, Nat.xor_zero] at h1
  exact h1
theorem xs_inj (k : Nat) (hk : 0 < k) (x y : Nat) (h : x ^^^ x >>> k = y ^^^ y >>> k) : x = y := by
  have h1 : (x ^^^ y) ^^^ (x ^^^ y) >>> k = 0 := by
    rw [Nat.shiftRight_xor_distrib]
    have e : x ^^^ y ^^^ (x >>> k ^^^ y >>> k) = (x ^^^ x >>> k) ^^^ (y ^^^ y >>> k) := by
      rw [Nat.xor_assoc, Nat.xor_assoc]
      congr 1
      rw [← Nat.xor_assoc, Nat.xor_comm y, Nat.xor_assoc]
    rw [e, h, Nat.xor_self]
  have h2 : (x ^^^ y) = (x ^^^ y) >>> k := xor_zero_eq _ _ h1
  rw [Nat.shiftRight_eq_div_pow] at h2
  have h3 : x ^^^ y = 0 := by
    rcases Nat.eq_zero_or_pos (x ^^^ y) with h4 | h4
    · exact h4
    · have h5 : 2 ≤ 2 ^ k := by
        calc 2 = 2 ^ 1 := rfl
          _ ≤ 2 ^ k := Nat.pow_le_pow_right (by omega) hk
      have h6 : (x ^^^ y) / 2 ^ k < (x ^^^ y) := Nat.div_lt_self h4 (by omega)
      omega
  exact xor_zero_eq _ _ h3
theorem xs64 (a b : UInt64) (k : UInt64) (hk : 0 < k.toNat % 64) (h : a ^^^ a >>> k = b ^^^ b >>> k) : a = b := by
  have h1 := congrArg UInt64.toNat h
  rw [UInt64.toNat_xor, UInt64.toNat_xor, UInt64.toNat_shiftRight, UInt64.toNat_shiftRight] at h1
  exact UInt64.toNat_inj.1 (xs_inj _ hk _ _ h1)
theorem mul64 (a b c d : UInt64) (hcd : c * d = 1) (h : a * c = b * c) : a = b := by
  have h1 : a * c * d = b * c * d := by rw [h]
  rw [UInt64.mul_assoc, UInt64.mul_assoc, hcd, UInt64.mul_one, UInt64.mul_one] at h1
  exact h1
theorem mix_inj (a b : UInt64) (h : mix64 a = mix64 b) : a = b := by
  unfold mix64 at h
  have h1 := xs64 _ _ 33 (by decide) h
  have h2 := mul64 _ _ _ 614540362697595703 (by decide) h1
  have h3 := xs64 _ _ 27 (by decide) h2
  have h4 := mul64 _ _ _ 839798700976720815 (by decide) h3
  exact xs64 _ _ 31 (by decide) h4
theorem xor_can (a b c : UInt64) (h : a ^^^ b = a ^^^ c) : b = c := by
  have h1 : a ^^^ (a ^^^ b) = a ^^^ (a ^^^ c) := by rw [h]
  rw [← UInt64.xor_assoc, ← UInt64.xor_assoc, UInt64.xor_self, UInt64.zero_xor, UInt64.zero_xor] at h1
  exact h1

/-! ### a block is its bytes -/
def valr : List UInt8 → Nat
  | [] => 0
  | c :: r => valr r * 256 + c.toNat
theorem valr_inj (r s : List UInt8) (hl : r.length = s.length) (h : valr r = valr s) : r = s := by
  induction r generalizing s with
  | nil =>
    cases s with
    | nil => rfl
    | cons _ _ => simp at hl
  | cons c r ih =>
    cases s with
    | nil => simp at hl
    | cons d s =>
      have h1 := c.toNat_lt
      have h2 := d.toNat_lt
      rw [valr, valr] at h
      have h3 : c.toNat = d.toNat := by omega
      rw [ih s (by simpa using hl) (by omega), UInt8.toNat_inj.1 h3]
theorem valr_lt (r : List UInt8) : valr r < 256 ^ r.length := by
  induction r with
  | nil => simp [valr]
  | cons c r ih =>
    have h1 := c.toNat_lt
    rw [valr, List.length_cons, Nat.pow_succ]
    omega
theorem blk_val (r : List UInt8) (h : r.length ≤ 8) : (blk64 r.reverse).toNat = valr r := by
  induction r with
  | nil => rfl
  | cons c r ih =>
    have h1 := valr_lt r
    have h2 : (256 : Nat) ^ r.length ≤ 256 ^ 7 := Nat.pow_le_pow_right (by omega) (by simpa using h)
    have h3 : (256 : Nat) ^ 7 = 72057594037927936 := by decide
    have hc := c.toNat_lt
    rw [List.reverse_cons, blk_snoc, UInt64.toNat_or, UInt64.toNat_shiftLeft, ih (by simp at h; omega), valr, UInt8.toNat_toUInt64]
    have e : (8 : UInt64).toNat % 64 = 8 := rfl
    rw [e]
    have h4 : valr r <<< 8 % 2 ^ 64 = valr r <<< 8 := Nat.mod_eq_of_lt (by rw [Nat.shiftLeft_eq]; omega)
    rw [h4, ← Nat.shiftLeft_add_eq_or_of_lt (by simpa using hc), Nat.shiftLeft_eq]
theorem blk_inj (l m : List UInt8) (hl : l.length = 8) (hm : m.length = 8) (h : blk64 l = blk64 m) : l = m := by
  have h1 := blk_val l.reverse (by simp [hl])
  have h2 := blk_val m.reverse (by simp [hm])
  rw [List.reverse_reverse] at h1 h2
  have h3 := valr_inj l.reverse m.reverse (by simp [hl, hm]) (by rw [← h1, ← h2, h])
  simpa using h3

/-! ### texts that differ in one block -/
theorem absorb_one (s : UInt64) (t u : ByteArray) (m K : Nat) (hm : m < K) (h : ∀ k, k < K → k ≠ m → pblk t k = pblk u k) : absorb s t K = absorb s u K ↔ pblk t m = pblk u m := by
  have same : ∀ J, J ≤ m → absorb s t J = absorb s u J := by
    intro J hJ
    induction J with
    | zero => rfl
    | succ J ih => rw [absorb, absorb, ih (by omega), h J (by omega) (by omega)]
  induction K with
  | zero => omega
  | succ K ih =>
    rw [absorb, absorb]
    by_cases hK : m = K
    · subst hK
      rw [same m (Nat.le_refl _)]
      constructor
      · intro e
        exact blk_inj _ _ (pblk_len _ _) (pblk_len _ _) (xor_can _ _ _ (mix_inj _ _ e))
      · intro e; rw [e]
    · have hi := ih (by omega) (fun k hk hn => h k (by omega) hn)
      rw [h K (by omega) (fun e => hK e.symm)]
      constructor
      · intro e
        have e1 := mix_inj _ _ e
        rw [UInt64.xor_comm, UInt64.xor_comm (absorb s u K)] at e1
        exact hi.1 (xor_can _ _ _ e1)
      · intro e; rw [hi.2 e]

theorem block_eq (p a b r : List UInt8) (m : Nat) (hp : p.length = 8 * m) (hab : a.length = b.length) (ha : a.length ≤ 8) :
    dg ⟨(p ++ a ++ r).toArray⟩ = dg ⟨(p ++ b ++ r).toArray⟩ ↔ a = b := by
  rw [dg_eq]
  have hs : (⟨(p ++ a ++ r).toArray⟩ : ByteArray).size = (⟨(p ++ b ++ r).toArray⟩ : ByteArray).size := by
    show (p ++ a ++ r).length = (p ++ b ++ r).length
    simp [hab]
  have hz : (⟨(p ++ a ++ r).toArray⟩ : ByteArray).size = (p ++ a ++ r).length := rfl
  unfold dgs
  rw [← hs]
  have hm : m < (⟨(p ++ a ++ r).toArray⟩ : ByteArray).size / 8 + 1 := by
    rw [hz]; simp only [List.length_append]; omega
  rw [absorb_one _ _ _ m _ hm (fun k _ hk => ?_)]
  · have e1 : ∀ c : List UInt8, ((p ++ c ++ r).drop (8 * m)) = c ++ r := fun c => by
      rw [List.append_assoc, List.drop_left' hp]
    constructor
    · intro e
      have e2 : (pblk ⟨(p ++ a ++ r).toArray⟩ m).take a.length = a := by
        show (((p ++ a ++ r).drop (8 * m)).take 8 ++ _).take a.length = a
        rw [e1, List.take_append_of_le_length (by rw [List.length_take, List.length_append]; omega), List.take_take, Nat.min_eq_left ha, List.take_left' rfl]
      have e3 : (pblk ⟨(p ++ b ++ r).toArray⟩ m).take a.length = b := by
        show (((p ++ b ++ r).drop (8 * m)).take 8 ++ _).take a.length = b
        rw [e1, List.take_append_of_le_length (by rw [List.length_take, List.length_append]; omega), List.take_take, Nat.min_eq_left ha, List.take_left' hab.symm]
      rw [← e2, e, e3]
    · intro e; rw [e]
  · unfold pblk
    show (((p ++ a ++ r).drop (8 * k)).take 8) ++ _ = (((p ++ b ++ r).drop (8 * k)).take 8) ++ _
    have key : ((p ++ a ++ r).drop (8 * k)).take 8 = ((p ++ b ++ r).drop (8 * k)).take 8 := by
      rcases Nat.lt_or_gt_of_ne hk with h1 | h1
      · rw [List.append_assoc, List.append_assoc, List.drop_append_of_le_length (by omega), List.drop_append_of_le_length (by omega), List.take_append_of_le_length (by rw [List.length_drop]; omega), List.take_append_of_le_length (by rw [List.length_drop]; omega)]
      · have e1 : ∀ c : List UInt8, c.length = a.length → (p ++ c ++ r).drop (8 * k) = r.drop (8 * k - (p.length + c.length)) := fun c hc => by
          rw [List.drop_append, List.length_append, List.drop_of_length_le (by rw [List.length_append]; omega), List.nil_append]
        rw [e1 a rfl, e1 b hab.symm, hab]
    show _ ++ List.replicate (8 - (((p ++ a ++ r).drop (8 * k)).take 8).length) 0 = _ ++ List.replicate (8 - (((p ++ b ++ r).drop (8 * k)).take 8).length) 0
    rw [key]

theorem block_ba (p a b r : ByteArray) (m : Nat) (hp : p.size = 8 * m) (hab : a.size = b.size) (ha : a.size ≤ 8) : dg (p ++ a ++ r) = dg (p ++ b ++ r) ↔ a = b := by
  have e : ∀ c : ByteArray, p ++ c ++ r = ⟨(p.data.toList ++ c.data.toList ++ r.data.toList).toArray⟩ := fun c => by
    apply ByteArray.ext
    apply Array.toList_inj.1
    rw [ByteArray.data_append, ByteArray.data_append, Array.toList_append, Array.toList_append]
  rw [e a, e b, block_eq _ _ _ _ m hp hab ha]
  constructor
  · intro h; exact ByteArray.ext (Array.toList_inj.1 h)
  · intro h; rw [h]

/-! ### short texts -/
theorem short_eq (a b : ByteArray) (ha : a.size ≤ 7) (hb : b.size ≤ 7) : dg a = dg b ↔ a = b := by
  rw [dg_eq]
  constructor
  · intro h
    unfold dgs at h
    have e1 : a.size / 8 + 1 = 0 + 1 := by omega
    have e2 : b.size / 8 + 1 = 0 + 1 := by omega
    rw [e1, e2, absorb, absorb, absorb, absorb] at h
    have h1 := mix_inj _ _ h
    rw [UInt64.xor_assoc, UInt64.xor_assoc] at h1
    have h2 := congrArg UInt64.toNat (xor_can _ _ _ h1)
    rw [UInt64.toNat_xor, UInt64.toNat_xor, UInt64.toNat_ofNat', UInt64.toNat_ofNat', Nat.mod_eq_of_lt (show a.size < 2 ^ 64 by omega), Nat.mod_eq_of_lt (show b.size < 2 ^ 64 by omega)] at h2
    have low : ∀ t : ByteArray, t.size ≤ 7 → (blk64 (pblk t 0)).toNat % 2 ^ 8 = 0 := by
      intro t ht
      have hl : (t.data.toList.drop (8 * 0)).take 8 = t.data.toList := by
        rw [Nat.mul_zero, List.drop_zero, List.take_of_length_le (by show t.size ≤ 8; omega)]
      have h5 := blk_val (pblk t 0).reverse (by simp [pblk_len])
      rw [List.reverse_reverse] at h5
      rw [h5]
      have h6 : (pblk t 0).reverse = 0 :: (List.replicate (8 - t.data.toList.length - 1) 0 ++ t.data.toList.reverse) := by
        unfold pblk
        rw [hl, List.reverse_append, List.reverse_replicate]
        have h7 : 8 - t.data.toList.length = (8 - t.data.toList.length - 1) + 1 := by
          have : t.data.toList.length = t.size := rfl
          omega
        rw [h7, List.replicate_succ]
        simp
      rw [h6, valr]
      show (_ * 256 + 0) % 256 = 0
      omega
    have h3 := congrArg (· % 2 ^ 8) h2
    simp only [Nat.xor_mod_two_pow] at h3
    rw [low a ha, low b hb, Nat.xor_zero, Nat.xor_zero, Nat.mod_eq_of_lt (show a.size < 2 ^ 8 by omega), Nat.mod_eq_of_lt (show b.size < 2 ^ 8 by omega)] at h3
    rw [h3] at h2
    have h4 : (blk64 (pblk a 0)).toNat = (blk64 (pblk b 0)).toNat := by
      have := congrArg (b.size ^^^ ·) h2
      simp only [← Nat.xor_assoc, Nat.xor_self, Nat.zero_xor] at this
      exact this
    have h5 := blk_inj _ _ (pblk_len a 0) (pblk_len b 0) (UInt64.toNat_inj.1 h4)
    have tk : ∀ t : ByteArray, t.size ≤ 7 → (pblk t 0).take t.size = t.data.toList := by
      intro t ht
      have hl : (t.data.toList.drop (8 * 0)).take 8 = t.data.toList := by
        rw [Nat.mul_zero, List.drop_zero, List.take_of_length_le (by show t.size ≤ 8; omega)]
      unfold pblk
      rw [hl]
      exact List.take_left' (show t.data.toList.length = t.size from rfl)
    have h6 : a.data.toList = b.data.toList := by rw [← tk a ha, ← tk b hb, h5, h3]
    exact ByteArray.ext (Array.toList_inj.1 h6)
  · intro h; rw [h]
end

section
open Go.RowKit

def fewB (l : List ByteArray) (m : Nat) : Bool := l.all (fun s => decide (s.size ≤ m)) && decide (l.length ≤ 30)
theorem few_any (A : Option Addr) (c : Nat) (l : List ByteArray) (m : Nat) (w : World) (h : Strs w A l) (hl : l.length ≤ 9223372036854775807) :
    Calls Tryz.prog 61 #[.slice A l.length c, .int .i64 m] w fun e w' => e = .returned (.bool (fewB l m)) ∧ w = w' := by
  have H := Lib.hid h
  clear h
  go_enter Tryz.func61, Tryz.ntmps61
  go_wp2_with fail
  go_loop [5] (fun u => ∃ k : Nat, k ≤ l.length ∧ u = .int .i64 k ∧ (l.take k).all (fun s => decide (s.size ≤ m)) = true) (fun u => l.length - (intOf u).toNat)
  case atStart => exact ⟨0, Nat.zero_le _, rfl, rfl⟩
  case round =>
    obtain ⟨k, hk, rfl, hall⟩ := hrel
    have HALL := Lib.hid hall
    clear hall
    by_cases hlt : k < l.length
    · obtain ⟨s, hs⟩ := get_some l k hlt
      obtain ⟨b, off, rfl, c0⟩ := H.out.at_ hs
      have HA := Lib.hid hs
      clear hs
      obtain ⟨z, hz⟩ : ∃ z, s.size = z := ⟨_, rfl⟩
      by_cases h100 : z ≤ m
      · go_wp2
        go_round
        case rel => exact ⟨k + 1, by omega, by go_num, by rw [all_take_succ _ _ _ _ HA.out, HALL.out, hz]; simpa using h100⟩
        case measure => simp [intOf]; omega
      · have hr : fewB l m = false := by
          rw [fewB, all_false_of _ _ _ _ HA.out (by rw [hz]; simpa using h100)]; rfl
        have HR := Lib.hid hr
        clear hr
        go_wp2
        go_ret
        exact ⟨ret_bool HR.out.symm, rfl⟩
    · obtain rfl : k = l.length := by omega
      rw [List.take_length] at HALL
      by_cases h30 : l.length ≤ 30
      · go_wp2
        go_ret
        exact ⟨ret_bool (by rw [fewB, HALL.out]; simp [h30]; omega), rfl⟩
      · go_wp2
        go_ret
        exact ⟨ret_bool (by rw [fewB, HALL.out]; simp [h30]; omega), rfl⟩

theorem dec_len (n k : Nat) (h : n < 10 ^ (k + 1)) : (Go.Lib.decDigits n).length ≤ k + 1 := by
  induction k generalizing n with
  | zero => rw [Go.Lib.decDigits, dif_pos (by simpa using h)]; simp
  | succ k ih =>
    rw [Go.Lib.decDigits]
    split
    · simp
    · have := ih (n / 10) (by rw [Nat.pow_succ] at h; omega)
      simp only [List.length_append, List.length_singleton]; omega
theorem jn_few (l : List ByteArray) (h : ∀ s ∈ l, s.size ≤ 200) : (jn l).length ≤ l.length * 204 := by
  induction l with
  | nil => exact Nat.zero_le _
  | cons s l ih =>
    have h1 := h s List.mem_cons_self
    have h2 := ih (fun s hs => h s (List.mem_cons_of_mem _ hs))
    have h3 := dec_len s.size 2 (by have : (10 : Nat) ^ (2 + 1) = 1000 := rfl; omega)
    have h4 : s.data.toList.length = s.size := rfl
    rw [jn, List.flatMap_cons, List.length_append]
    show (one s).length + (jn l).length ≤ _
    simp only [one, List.length_append, List.length_cons, List.length_nil]
    omega
theorem few_jn {l : List ByteArray} (h : fewB l 200 = true) : (jn l).length ≤ 6120 ∧ l.length ≤ 30 ∧ ∀ s ∈ l, s.size ≤ 200 := by
  simp only [fewB, Bool.and_eq_true, List.all_eq_true, decide_eq_true_eq] at h
  have := jn_few l h.1
  exact ⟨by omega, h.2, h.1⟩
end

section
open Go.RowKit

theorem dd_val (n : Nat) : (Go.Lib.decDigits n).foldl (fun v c => 10 * v + (c.toNat - 48)) 0 = n := by
  induction n using Nat.strongRecOn with
  | _ n ih =>
    rw [Go.Lib.decDigits]
    split
    · next h =>
      have : (UInt8.ofNat (48 + n)).toNat = 48 + n := by rw [UInt8.toNat_ofNat']; omega
      simp only [List.foldl_cons, List.foldl_nil, this]; omega
    · next h =>
      have : (UInt8.ofNat (48 + n % 10)).toNat = 48 + n % 10 := by rw [UInt8.toNat_ofNat']; omega
      rw [List.foldl_append, ih (n / 10) (by omega)]
      simp only [List.foldl_cons, List.foldl_nil, this]; omega
theorem dd_inj {a b : Nat} (h : Go.Lib.decDigits a = Go.Lib.decDigits b) : a = b := by
  rw [← dd_val a, h, dd_val]
theorem dd_no (n : Nat) : ∀ c ∈ Go.Lib.decDigits n, c ≠ 58 := by
  induction n using Nat.strongRecOn with
  | _ n ih =>
    intro c hc
    rw [Go.Lib.decDigits] at hc
    have key : ∀ d, d < 10 → UInt8.ofNat (48 + d) ≠ 58 := by decide
    split at hc
    · next h => rw [List.mem_singleton.1 hc]; exact key n h
    · next h =>
      rcases List.mem_append.1 hc with h1 | h1
      · exact ih (n / 10) (by omega) c h1
      · rw [List.mem_singleton.1 h1]; exact key (n % 10) (by omega)
theorem cut_eq (p q X Y : List UInt8) (hp : ∀ c ∈ p, c ≠ 58) (hq : ∀ c ∈ q, c ≠ 58) (h : p ++ 58 :: X = q ++ 58 :: Y) : p = q ∧ X = Y := by
  induction p generalizing q with
  | nil =>
    cases q with
    | nil => exact ⟨rfl, by simpa using h⟩
    | cons c q =>
      simp only [List.nil_append, List.cons_append, List.cons.injEq] at h
      exact absurd h.1.symm (hq c List.mem_cons_self)
  | cons c p ih =>
    cases q with
    | nil =>
      simp only [List.nil_append, List.cons_append, List.cons.injEq] at h
      exact absurd h.1 (hp c List.mem_cons_self)
    | cons d q =>
      simp only [List.cons_append, List.cons.injEq] at h
      obtain ⟨h1, h2⟩ := ih q (fun x hx => hp x (List.mem_cons_of_mem _ hx)) (fun x hx => hq x (List.mem_cons_of_mem _ hx)) h.2
      exact ⟨by rw [h.1, h1], h2⟩
theorem jn_cons (s : ByteArray) (l : List ByteArray) : jn (s :: l) = Go.Lib.decDigits s.size ++ 58 :: (s.data.toList ++ jn l) := by
  simp [jn, one]
theorem ba_ext {s t : ByteArray} (h : s.data.toList = t.data.toList) : s = t := by
  apply ByteArray.ext
  exact Array.toList_inj.1 h
theorem jn_inj (l m : List ByteArray) (h : jn l = jn m) : l = m := by
  induction l generalizing m with
  | nil =>
    cases m with
    | nil => rfl
    | cons t m => rw [jn_cons] at h; simp [jn] at h
  | cons s l ih =>
    cases m with
    | nil => rw [jn_cons] at h; simp [jn] at h
    | cons t m =>
      rw [jn_cons, jn_cons] at h
      obtain ⟨h1, h2⟩ := cut_eq _ _ _ _ (dd_no _) (dd_no _) h
      have hz := dd_inj h1
      obtain ⟨h3, h4⟩ := List.append_inj h2 (show s.size = t.size from hz)
      rw [ba_ext h3, ih m h4]
theorem jn_ba (l m : List ByteArray) : ((⟨(jn l).toArray⟩ : ByteArray) = ⟨(jn m).toArray⟩) ↔ l = m := by
  refine ⟨fun h => jn_inj l m ?_, fun h => by rw [h]⟩
  have := congrArg (fun x : ByteArray => x.data.toList) h
  simpa using this
/-- Lists of one element of at most 9 bytes, of the same length, of which the first 6 agree. -/
theorem lone_eq (p a b : List UInt8) (hp : p.length = 6) (hab : a.length = b.length) (ha : a.length ≤ 3) :
    dg ⟨(jn [⟨(p ++ a).toArray⟩]).toArray⟩ = dg ⟨(jn [⟨(p ++ b).toArray⟩]).toArray⟩ ↔ a = b := by
  have hz : ∀ x : List UInt8, (⟨(p ++ x).toArray⟩ : ByteArray).size = 6 + x.length := fun x => by
    show (p ++ x).length = _
    rw [List.length_append, hp]
  have hd : ∀ n, n < 10 → Go.Lib.decDigits n = [UInt8.ofNat (48 + n)] := fun n h => by rw [Go.Lib.decDigits, dif_pos h]
  have hj : ∀ x : List UInt8, x.length ≤ 3 → jn [⟨(p ++ x).toArray⟩] = (UInt8.ofNat (48 + (6 + x.length)) :: 58 :: p) ++ x ++ [] := fun x hx => by
    rw [jn_cons, hz, hd _ (by omega)]
    simp [jn]
  rw [hj a ha, hj b (by omega), hab]
  exact block_eq _ a b [] 1 (by simp [hp]) hab (by omega)
end

end Go.Proofs.YtjfondfjdhjooaaGreatDoor
