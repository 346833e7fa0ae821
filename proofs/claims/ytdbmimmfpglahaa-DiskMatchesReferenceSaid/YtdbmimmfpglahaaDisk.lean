/- The disk: its state, how it lies in memory, frames. -/
import Derived.Test.YtdbmimmfpglahaaBase
namespace Go.Proofs.Ytdbmimmfpglahaa
open Go.RowKit

/-! ### only some blocks have turned -/
structure Chg (F : List Nat) (w w' : World) : Prop where
  os : w'.os = w.os
  tape : w'.tape = w.tape
  output : w'.output = w.output
  size : w.heap.size ≤ w'.heap.size
  block : ∀ k, k < w.heap.size → k ∉ F → w'.heap[k]? = w.heap[k]?

theorem Chg.refl (F : List Nat) (w : World) : Chg F w w := ⟨rfl, rfl, rfl, Nat.le_refl _, fun _ _ _ => rfl⟩
theorem Chg.trans {F F1 : List Nat} {a b c : World} (h : Chg F a b) (k : Chg F1 b c) (hs : ∀ j, j ∈ F1 → j ∈ F ∨ a.heap.size ≤ j) : Chg F a c :=
  ⟨k.os.trans h.os, k.tape.trans h.tape, k.output.trans h.output, Nat.le_trans h.size k.size, fun i hi hn => (k.block i (Nat.lt_of_lt_of_le hi h.size) (fun e => by rcases hs i e with h1 | h1; exact hn h1; omega)).trans (h.block i hi hn)⟩
theorem Chg.alloc {F : List Nat} {a w : World} (h : Chg F a w) (o : Obj) : Chg F a (w.alloc o) :=
  ⟨h.os, h.tape, h.output, Nat.le_trans h.size (by simp), fun i hi hn => (Below.heap_alloc w o i (Nat.lt_of_lt_of_le hi h.size)).trans (h.block i hi hn)⟩
theorem Chg.drew {F : List Nat} {a w : World} (h : Chg F a w) : Chg F a w.drew := ⟨h.os, h.tape, h.output, h.size, h.block⟩
theorem Chg.drewN {F : List Nat} {a w : World} (h : Chg F a w) (n : Nat) : Chg F a (w.drewN n) := ⟨h.os, h.tape, h.output, h.size, h.block⟩
theorem Chg.setCell {F : List Nat} {a w : World} (h : Chg F a w) {p : Addr} (hp : p.block ∈ F ∨ a.heap.size ≤ p.block) (u : Value) : Chg F a (w.setCell p u) :=
  ⟨h.os, h.tape, h.output, by simpa [World.setCell] using h.size, fun i hi hn => (Below.heap_setCell w p u i (by
    rintro rfl
    rcases hp with hp | hp
    · exact hn hp
    · omega)).trans (h.block i hi hn)⟩
theorem Chg.of_below {a w : World} (h : Below a.heap.size a w) (F : List Nat) : Chg F a w := ⟨h.os, h.tape, h.output, h.size, fun i hi _ => h.block i hi⟩
theorem Chg.grown {F : List Nat} {a w w' : World} {row : Option Nat} (h : Chg F a w) (hg : w.grownBy w' row) (hr : ∀ k, row = some k → k ∈ F ∨ a.heap.size ≤ k) : Chg F a w' :=
  ⟨hg.os.trans h.os, hg.tape.trans h.tape, hg.output.trans h.output, Nat.le_trans h.size hg.size, fun i hi hn => (hg.block i (Nat.lt_of_lt_of_le hi h.size) (fun e => by rcases hr i e.symm with h1 | h1; exact hn h1; omega)).trans (h.block i hi hn)⟩
theorem Chg.below {F : List Nat} {a w : World} {B : Nat} (h : Chg F a w) (hF : ∀ k, k ∈ F → B ≤ k) (hB : B ≤ a.heap.size) : Below B a w :=
  ⟨h.os, h.tape, h.output, h.size, fun k hk => h.block k (by omega) (fun e => by have := hF k e; omega)⟩
theorem Chg.cell {F : List Nat} {a w : World} (h : Chg F a w) {b o : Nat} {v : Value} (hb : b ∉ F) (hv : a.cell? ⟨b, o, none⟩ = some v) : w.cell? ⟨b, o, none⟩ = some v :=
  (World.cell?_of_block (w := a) (h.block b (lt_of_cell hv) hb)).trans hv

/-! ### the state of a disk -/
structure DS where
  n : Nat
  st : List UInt8
  q : List (Nat × ByteArray)
  off : Bool
  arm : Option (Int × Int × Int)

structure DS.ok (S : DS) : Prop where
  n1 : 1 ≤ S.n
  n4000 : S.n ≤ 4000
  len : S.st.length = S.n * 64
  inq : ∀ p, p ∈ S.q → p.1 < S.n ∧ p.2.size = 64
  few : S.q.length ≤ 1000000
  arm0 : ∀ a, S.arm = some a → 0 ≤ a.1 ∧ a.1 ≤ 9223372036854775807

def u8s (l : List UInt8) : List Value := l.map fun b => .int .u8 b.toNat
def flatq (q : List (Nat × ByteArray)) : List Value := q.flatMap fun p => [.int .i64 ((p.1 * 64 : Nat) : Int), .int .i64 (((p.1 + 1) * 64 : Nat) : Int), .string p.2]

/-- Block g is just the cells cs of element type t. -/
def Blk (w : World) (g : Nat) (t : TypeId) (cs : Array Value) : Prop := w.heap[g]? = some (.cells cs t (0, 0))

theorem Blk.lt {w : World} {g : Nat} {t : TypeId} {cs : Array Value} (h : Blk w g t cs) : g < w.heap.size := (Array.getElem?_eq_some_iff.1 h).1
theorem Blk.cell {w : World} {g : Nat} {t : TypeId} {cs : Array Value} (h : Blk w g t cs) (i : Nat) : w.cell? ⟨g, i, none⟩ = cs[i]? := cell_of_row w g i cs t (0, 0) h
theorem Blk.frozen {w : World} {g : Nat} {t : TypeId} {cs : Array Value} (h : Blk w g t cs) (i : Nat) : w.frozen? ⟨g, i, none⟩ = false := frozen_of_row w g i cs t h
theorem Blk.set {w : World} {g : Nat} {t : TypeId} {cs : Array Value} (h : Blk w g t cs) (i : Nat) (u : Value) : Blk (w.setCell ⟨g, i, none⟩ u) g t (cs.setIfInBounds i u) := heap_setCell_same w g i cs t u h
theorem Blk.far {w : World} {g : Nat} {t : TypeId} {cs : Array Value} (h : Blk w g t cs) {p : Addr} (hp : g ≠ p.block) (u : Value) : Blk (w.setCell p u) g t cs := (Below.heap_setCell w p u g hp).trans h
theorem Blk.alloc {w : World} {g : Nat} {t : TypeId} {cs : Array Value} (h : Blk w g t cs) (o : Obj) : Blk (w.alloc o) g t cs := (Below.heap_alloc w o g h.lt).trans h
theorem Blk.drew {w : World} {g : Nat} {t : TypeId} {cs : Array Value} (h : Blk w g t cs) : Blk w.drew g t cs := h
theorem Blk.drewN {w : World} {g : Nat} {t : TypeId} {cs : Array Value} (h : Blk w g t cs) (n : Nat) : Blk (w.drewN n) g t cs := h
theorem Blk.chg {w w' : World} {g : Nat} {t : TypeId} {cs : Array Value} {F : List Nat} (h : Blk w g t cs) (hc : Chg F w w') (hg : g ∉ F) : Blk w' g t cs := (hc.block g h.lt hg).trans h
theorem Blk.grown {w w' : World} {g : Nat} {t : TypeId} {cs : Array Value} {row : Option Nat} (h : Blk w g t cs) (hb : w.grownBy w' row) (hg : some g ≠ row) : Blk w' g t cs := (hb.block g h.lt hg).trans h
theorem Blk.ne_ {w : World} {g g' : Nat} {t t' : TypeId} {cs cs' : Array Value} (h : Blk w g t cs) (h' : Blk w g' t' cs') (hne : t ≠ t') : g ≠ g' := by
  rintro rfl
  unfold Blk at h h'
  rw [h] at h'
  injection h' with h'
  injection h' with _ ht
  exact hne ht
theorem own_blk_ne {w : World} {g : Nat} {t : TypeId} {cs : Array Value} {base : Nat} {e : TypeId} {size n : Nat} {v : Value} {xs : List Value} (h : w.ownsRow base e size v n xs) (hg : Blk w g t cs) (hne : e ≠ t) : v.ownBlock ≠ some g := by
  rcases h.2 with ⟨rfl, _⟩ | ⟨g', cap, cur, rfl, _, hh, _⟩
  · simp [Value.ownBlock]
  · intro he
    have : g' = g := by simpa [Value.ownBlock] using he
    subst this
    exact Blk.ne_ (t := e) hh hg hne rfl

def ptrBlock : Value → Option Nat
  | .pointer (some a) => some a.block
  | _ => none

def foot (d sb : Nat) (qv ap : Value) : List Nat := [d, sb] ++ qv.ownBlock.toList ++ (ptrBlock ap).toList

/-- The disk's blocks. -/
structure DkAt (w : World) (d : Nat) (S : DS) (sb : Nat) (qv ap : Value) : Prop where
  head : Blk w d 48 #[.slice (some ⟨sb, 0, none⟩) (S.n * 64) (S.n * 64), qv, .bool S.off, ap]
  stab : Blk w sb 5 (u8s S.st).toArray
  queue : w.ownsRow 0 59 3 qv S.q.length (flatq S.q)
  armed : match S.arm with
    | none => ap = .pointer none
    | some a => ∃ ab, ap = .pointer (some ⟨ab, 0, none⟩) ∧ Blk w ab 65 #[.int .i64 a.1, .int .i64 a.2.1, .int .i64 a.2.2]
  good : S.ok

/-- The disk at block d is in state S; it lies in the blocks F. -/
def Dk (w : World) (d : Nat) (S : DS) (F : List Nat) : Prop := ∃ sb qv ap, DkAt w d S sb qv ap ∧ F = foot d sb qv ap

theorem DkAt.lt {w : World} {d sb : Nat} {S : DS} {qv ap : Value} (h : DkAt w d S sb qv ap) : ∀ k, k ∈ foot d sb qv ap → k < w.heap.size := by
  intro k hk
  simp only [foot, List.mem_append, List.mem_cons, Option.mem_toList, List.not_mem_nil, or_false] at hk
  rcases hk with ((rfl | rfl) | hk) | hk
  · exact h.head.lt
  · exact h.stab.lt
  · exact (h.queue.lt k hk).2
  · have ha := h.armed
    split at ha
    · rw [ha] at hk; simp [ptrBlock] at hk
    · obtain ⟨ab, rfl, hb⟩ := ha
      simp [ptrBlock] at hk
      subst hk; exact hb.lt

theorem Dk.lt {w : World} {d : Nat} {S : DS} {F : List Nat} (h : Dk w d S F) : ∀ k, k ∈ F → k < w.heap.size := by
  obtain ⟨sb, qv, ap, h1, rfl⟩ := h
  exact h1.lt

theorem Dk.good {w : World} {d : Nat} {S : DS} {F : List Nat} (h : Dk w d S F) : S.ok := by obtain ⟨_, _, _, h1, _⟩ := h; exact h1.good

theorem own_chg {w w' : World} {base : Nat} {e : TypeId} {size n : Nat} {v : Value} {xs : List Value} {F2 : List Nat} (h : w.ownsRow base e size v n xs) (hc : Chg F2 w w') (hd : ∀ k, v.ownBlock = some k → k ∉ F2) : w'.ownsRow base e size v n xs := by
  refine ⟨h.1, ?_⟩
  rcases h.2 with hn | ⟨g, cap, cur, rfl, hb, hg, rest⟩
  · exact .inl hn
  · exact .inr ⟨g, cap, cur, rfl, hb, (hc.block g (Array.getElem?_eq_some_iff.1 hg).1 (hd g rfl)).trans hg, rest⟩

theorem DkAt.chg {w w' : World} {d sb : Nat} {S : DS} {qv ap : Value} {F2 : List Nat} (h : DkAt w d S sb qv ap) (hc : Chg F2 w w') (hd : ∀ k, k ∈ foot d sb qv ap → k ∉ F2) : DkAt w' d S sb qv ap := by
  have h0 : ∀ k, (((k = d ∨ k = sb) ∨ qv.ownBlock = some k) ∨ ptrBlock ap = some k) → k ∉ F2 := by
    intro k hk
    refine hd k ?_
    simp only [foot, List.mem_append, List.mem_cons, Option.mem_toList, List.not_mem_nil, or_false]
    exact hk
  refine ⟨h.head.chg hc (h0 d (.inl (.inl (.inl rfl)))), h.stab.chg hc (h0 sb (.inl (.inl (.inr rfl)))), own_chg h.queue hc (fun k hk => h0 k (.inl (.inr hk))), ?_, h.good⟩
  have ha := h.armed
  cases hS : S.arm with
  | none => simp only [hS] at ha ⊢; exact ha
  | some a =>
    simp only [hS] at ha ⊢
    obtain ⟨ab, rfl, hb⟩ := ha
    exact ⟨ab, rfl, hb.chg hc (h0 ab (.inr rfl))⟩

theorem Dk.chg {w w' : World} {d : Nat} {S : DS} {F F2 : List Nat} (h : Dk w d S F) (hc : Chg F2 w w') (hd : ∀ k, k ∈ F → k ∉ F2) : Dk w' d S F := by
  obtain ⟨sb, qv, ap, h1, rfl⟩ := h
  exact ⟨sb, qv, ap, h1.chg hc hd, rfl⟩

/-- The disk at d (in the blocks F in w) has come to state S'. -/
def DkTo (w w' : World) (d : Nat) (F : List Nat) (S' : DS) : Prop := ∃ F', Dk w' d S' F' ∧ (∀ k, k ∈ F' → k ∈ F ∨ w.heap.size ≤ k) ∧ Chg F w w'

theorem DkTo.of_chg {w w' : World} {d : Nat} {S : DS} {F : List Nat} (h : Dk w d S F) (hc : Below w.heap.size w w') : DkTo w w' d F S :=
  ⟨F, h.chg (F2 := []) (Chg.of_below hc []) (by simp), fun _ hk => .inl hk, Chg.of_below hc F⟩

theorem DkTo.trans {w w1 w2 : World} {d : Nat} {S1 S2 : DS} {F : List Nat} (h : DkTo w w1 d F S1) (k : ∀ F1, Dk w1 d S1 F1 → DkTo w1 w2 d F1 S2) : DkTo w w2 d F S2 := by
  obtain ⟨F1, h1, h2, h3⟩ := h
  obtain ⟨F2, k1, k2, k3⟩ := k F1 h1
  refine ⟨F2, k1, fun j hj => ?_, h3.trans k3 h2⟩
  rcases k2 j hj with h4 | h4
  · exact h2 j h4
  · have := h3.size; right; omega

/-- The three kinds of the disk's blocks are apart. -/
theorem DkAt.apart {w : World} {d sb : Nat} {S : DS} {qv ap : Value} (h : DkAt w d S sb qv ap) :
    d ≠ sb ∧ qv.ownBlock ≠ some d ∧ qv.ownBlock ≠ some sb ∧ ptrBlock ap ≠ some d ∧ ptrBlock ap ≠ some sb ∧ (∀ k, qv.ownBlock = some k → ptrBlock ap ≠ some k) := by
  have ha := h.armed
  refine ⟨h.head.ne_ h.stab (by decide), own_blk_ne h.queue h.head (by decide), own_blk_ne h.queue h.stab (by decide), ?_, ?_, ?_⟩
  · split at ha
    · rw [ha]; simp [ptrBlock]
    · obtain ⟨ab, rfl, hb⟩ := ha
      simp only [ptrBlock, ne_eq, Option.some.injEq]; exact hb.ne_ h.head (by decide)
  · split at ha
    · rw [ha]; simp [ptrBlock]
    · obtain ⟨ab, rfl, hb⟩ := ha
      simp only [ptrBlock, ne_eq, Option.some.injEq]; exact hb.ne_ h.stab (by decide)
  · intro k hk
    split at ha
    · rw [ha]; simp [ptrBlock]
    · obtain ⟨ab, rfl, hb⟩ := ha
      simp only [ptrBlock, ne_eq, Option.some.injEq]
      intro e
      subst e
      exact own_blk_ne h.queue hb (by decide) hk

/-! ### what the methods compute -/
def DS.errAt (S : DS) (s : Int) : Int := if S.off then 28 else if 0 ≤ s ∧ s < S.n then 0 else 1

def put (st : List UInt8) (s : Nat) (t : List UInt8) : List UInt8 := st.take (s * 64) ++ t ++ st.drop (s * 64 + t.length)
def settle (st : List UInt8) : List (Nat × ByteArray) → List UInt8
  | [] => st
  | p :: l => settle (put st p.1 p.2.data.toList) l

def DS.fail (S : DS) (writes bytes : Int) : DS :=
  if S.off then S else
  let n := min (max writes 0).toNat S.q.length
  let st := settle S.st (S.q.take n)
  let k := (min (max bytes 0) 64).toNat
  { n := S.n, st := match S.q[n]? with | some p => put st p.1 (p.2.data.toList.take k) | none => st, q := [], off := true, arm := none }

def DS.count (S : DS) : Int × DS :=
  match S.arm with
  | none => (0, S)
  | some a => if 0 < a.1 then (0, { S with arm := some (a.1 - 1, a.2) }) else (28, S.fail a.2.1 a.2.2)

def DS.write (S : DS) (s : Int) (t : ByteArray) : Int × DS :=
  if S.errAt s ≠ 0 then (S.errAt s, S) else if t.size ≠ 64 then (1, S) else ({ S with q := S.q ++ [(s.toNat, t)] } : DS).count

def DS.sector (S : DS) (s : Nat) : ByteArray := ⟨((S.st.drop (s * 64)).take 64).toArray⟩
def DS.read (S : DS) (s : Int) : ByteArray × Int :=
  if S.errAt s ≠ 0 then (ByteArray.empty, S.errAt s) else
  match S.q.reverse.find? (fun p => p.1 == s.toNat) with
  | some p => (p.2, 0)
  | none => (S.sector s.toNat, 0)

def DS.sync (S : DS) : Int × DS :=
  if S.off then (28, S) else
  if S.count.1 ≠ 0 then S.count else (0, { S.count.2 with st := settle S.count.2.st S.count.2.q, q := [] })

def DS.start (S : DS) : DS := { S with off := false, arm := none }
def DS.setArm (S : DS) (after writes bytes : Int) : DS := if S.off then S else { S with arm := if 0 ≤ after then some (after, writes, bytes) else none }
def DS.rot (S : DS) (s at_ mask : Int) : DS :=
  if 0 ≤ s ∧ s < S.n ∧ 0 ≤ at_ ∧ at_ < 64 ∧ 0 < mask ∧ mask < 256 then
    { S with st := S.st.modify (s.toNat * 64 + at_.toNat) (fun b => b ^^^ UInt8.ofNat mask.toNat) } else S
def DS.raw (S : DS) : ByteArray := ⟨S.st.toArray⟩

def DS.new (n : Nat) : DS := { n := n, st := List.replicate (n * 64) 0, q := [], off := false, arm := none }

end Go.Proofs.Ytdbmimmfpglahaa
