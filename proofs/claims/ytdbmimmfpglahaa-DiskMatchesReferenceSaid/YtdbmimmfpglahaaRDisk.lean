/- The reference's disk (observatoryref55), told by the same state DS: how it lies in memory, frames. -/
import Derived.Test.YtdbmimmfpglahaaLBase55
namespace Go.Proofs.Ytdbmimmfpglahaa
open Go.RowKit

/-! ### the stable sectors as texts -/
def sects (n : Nat) (st : List UInt8) : List Value := (List.range n).map fun i => .string (secB st i)
theorem sects_length (n : Nat) (st : List UInt8) : (sects n st).length = n := by simp [sects]
theorem sects_at (n : Nat) (st : List UInt8) (i : Nat) (h : i < n) : (sects n st)[i]? = some (.string (secB st i)) := by simp [sects, h]
theorem sects_set (n : Nat) (st st' : List UInt8) (s : Nat) (t : ByteArray) (hs : s < n) (h1 : secB st' s = t) (h2 : ∀ i, i ≠ s → secB st' i = secB st i) : sects n st' = (sects n st).set s (.string t) := by
  apply List.ext_getElem?
  intro i
  rw [List.getElem?_set, sects_length]
  by_cases hi : i < n
  · rw [sects_at _ _ _ hi, sects_at _ _ _ hi]
    by_cases he : s = i
    · subst he; rw [if_pos rfl, if_pos hs, h1]
    · rw [if_neg he, h2 i (fun e => he e.symm)]
  · rw [List.getElem?_eq_none (by rw [sects_length]; omega), if_neg (fun e => hi (by omega)), List.getElem?_eq_none (by rw [sects_length]; omega)]
theorem sects_put (n : Nat) (st : List UInt8) (p : Nat × ByteArray) (h : st.length = n * 64) (hp : p.1 < n ∧ p.2.size = 64) : sects n (put st p.1 p.2.data.toList) = (sects n st).set p.1 (.string p.2) :=
  sects_set n st _ p.1 p.2 hp.1 (by rw [secB_put st n _ p h hp, if_pos rfl]) (fun i hi => by rw [secB_put st n _ p h hp, if_neg hi])
theorem secB_size (n : Nat) (st : List UInt8) (i : Nat) (h : st.length = n * 64) (hi : i < n) : (secB st i).size = 64 := secL_length st n i h hi
theorem ba_app (a b : List UInt8) : (⟨(a ++ b).toArray⟩ : ByteArray) = ⟨a.toArray⟩ ++ ⟨b.toArray⟩ := by
  apply ByteArray.ext
  rw [ByteArray.data_append]
  simp
theorem ba_take (a : ByteArray) (k : Nat) : (⟨(a.data.toList.take k).toArray⟩ : ByteArray) = a.extract 0 k := by
  apply ByteArray.ext
  rw [ByteArray.data_extract]
  apply Array.toList_inj.1
  simp
theorem ba_drop (l : List UInt8) (k m : Nat) (hm : l.length = m) : (⟨(l.drop k).toArray⟩ : ByteArray) = (⟨l.toArray⟩ : ByteArray).extract k m := by
  apply ByteArray.ext
  rw [ByteArray.data_extract]
  apply Array.toList_inj.1
  simp only [Array.toList_extract, List.extract]
  rw [List.take_of_length_le (by simp; omega)]
theorem sects_torn (n : Nat) (st : List UInt8) (s k : Nat) (t : ByteArray) (h : st.length = n * 64) (hs : s < n) (ht : t.size = 64) (hk : k ≤ 64) :
    sects n (put st s (t.data.toList.take k)) = (sects n st).set s (.string (t.extract 0 k ++ (secB st s).extract k 64)) := by
  have hl : (t.data.toList.take k).length = k := by rw [List.length_take, ba_len]; omega
  refine sects_set n st _ s _ hs ?_ (fun i hi => ?_)
  · unfold secB
    rw [secL_put_same _ _ _ (by omega) (by omega), ba_app, ba_take, hl, ba_drop _ _ 64 (secL_length st n s h hs)]
  · unfold secB
    rw [secL_put_ne _ _ _ _ (by omega) (by omega) hi]
theorem sects_rot (n : Nat) (st : List UInt8) (s a : Nat) (f : UInt8 → UInt8) (b : UInt8) (h : st.length = n * 64) (hs : s < n) (ha : a < 64) (hb : st[s * 64 + a]? = some b) :
    sects n (st.modify (s * 64 + a) f) = (sects n st).set s (.string ((secB st s).extract 0 a ++ ⟨#[f b]⟩ ++ (secB st s).extract (a + 1) 64)) := by
  refine sects_set n st _ s _ hs ?_ (fun i hi => ?_)
  · have e : (secB st s).extract 0 a ++ ⟨#[f b]⟩ ++ (secB st s).extract (a + 1) 64 = (⟨((secL st s).take a ++ [f b] ++ (secL st s).drop (a + 1)).toArray⟩ : ByteArray) := by
      rw [ba_app, ba_app, ba_drop _ _ 64 (secL_length st n s h hs), ← ba_take]
      rfl
    have e2 : (secL st s).take a ++ [f b] ++ (secL st s).drop (a + 1) = secL (st.modify (s * 64 + a) f) s := by
      have hz := secL_length st n s h hs
      apply List.ext_getElem?
      intro j
      have hm : j < 64 → (st.modify (s * 64 + a) f)[s * 64 + j]? = if a = j then some (f b) else st[s * 64 + j]? := fun _ => by
        rw [List.getElem?_modify]
        by_cases he : a = j
        · subst he; simp [hb]
        · simp [he]
      rw [secL_get]
      by_cases hj : j < a
      · rw [List.append_assoc, List.getElem?_append_left (by rw [List.length_take]; omega), List.getElem?_take, if_pos hj, secL_get, if_pos (by omega), if_pos (by omega), hm (by omega), if_neg (by omega)]
      · by_cases hj2 : j = a
        · subst hj2
          rw [List.append_assoc, List.getElem?_append_right (by rw [List.length_take]; omega), List.length_take, if_pos (by omega), hm (by omega), if_pos rfl]
          have e0 : j - min j (secL st s).length = 0 := by omega
          rw [e0]; rfl
        · rw [List.getElem?_append_right (by simp; omega), List.getElem?_drop, secL_get]
          have e1 : a + 1 + (j - ((secL st s).take a ++ [f b]).length) = j := by simp; omega
          rw [e1]
          split
          · rw [hm (by omega), if_neg (by omega)]
          · rfl
    rw [e, e2]; rfl
  · unfold secB
    have : secL (st.modify (s * 64 + a) f) i = secL st i := by
      apply List.ext_getElem?
      intro j
      rw [secL_get, secL_get]
      split
      · rw [List.getElem?_modify]
        have : ¬ s * 64 + a = i * 64 + j := by omega
        simp [this]
      · rfl
    rw [this]

def RSt (w : World) (sb n : Nat) (st : List UInt8) : Prop := ∃ cur, Blk w sb 9 cur ∧ n ≤ cur.size ∧ cur.toList.take n = sects n st
section
variable {w w' : World} {sb n : Nat} {st : List UInt8}
theorem RSt.lt (h : RSt w sb n st) : sb < w.heap.size := by obtain ⟨_, h1, _⟩ := h; exact h1.lt
theorem RSt.cell (h : RSt w sb n st) (i : Nat) (hi : i < n) : w.cell? ⟨sb, i, none⟩ = some (.string (secB st i)) := by
  obtain ⟨cur, h1, h2, h3⟩ := h
  rw [h1.cell i]
  have h4 : (cur.toList.take n)[i]? = (sects n st)[i]? := by rw [h3]
  rw [List.getElem?_take, if_pos hi, Array.getElem?_toList, sects_at _ _ _ hi] at h4
  exact h4
theorem RSt.frozen (h : RSt w sb n st) (i : Nat) : w.frozen? ⟨sb, i, none⟩ = false := by obtain ⟨_, h1, _⟩ := h; exact h1.frozen i
theorem RSt.chg {F : List Nat} (h : RSt w sb n st) (hc : Chg F w w') (hg : sb ∉ F) : RSt w' sb n st := by
  obtain ⟨cur, h1, h2, h3⟩ := h
  exact ⟨cur, h1.chg hc hg, h2, h3⟩
theorem RSt.far (h : RSt w sb n st) {p : Addr} (hp : sb ≠ p.block) (u : Value) : RSt (w.setCell p u) sb n st := by
  obtain ⟨cur, h1, h2, h3⟩ := h
  exact ⟨cur, h1.far hp u, h2, h3⟩
theorem RSt.alloc (h : RSt w sb n st) (o : Obj) : RSt (w.alloc o) sb n st := by
  obtain ⟨cur, h1, h2, h3⟩ := h
  exact ⟨cur, h1.alloc o, h2, h3⟩
theorem RSt.drew (h : RSt w sb n st) : RSt w.drew sb n st := h
theorem RSt.grown {row : Option Nat} (h : RSt w sb n st) (hb : w.grownBy w' row) (hg : some sb ≠ row) : RSt w' sb n st := by
  obtain ⟨cur, h1, h2, h3⟩ := h
  exact ⟨cur, h1.grown hb hg, h2, h3⟩
theorem RSt.set {st' : List UInt8} {s : Nat} {t : ByteArray} (h : RSt w sb n st) (hs : s < n) (e : sects n st' = (sects n st).set s (.string t)) : RSt (w.setCell ⟨sb, s, none⟩ (.string t)) sb n st' := by
  obtain ⟨cur, h1, h2, h3⟩ := h
  refine ⟨_, h1.set s (.string t), by simpa using h2, ?_⟩
  rw [e, ← h3, Array.toList_setIfInBounds, List.take_set]
end

/-! ### the pending writes -/
def rq (q : List (Nat × ByteArray)) : List Value := q.flatMap fun p => [.int .i64 (p.1 : Int), .string p.2]
theorem rq_length (q : List (Nat × ByteArray)) : (rq q).length = q.length * 2 := by
  induction q with
  | nil => rfl
  | cons p l ih => simp only [rq, List.flatMap_cons, List.length_append, List.length_cons, List.length_nil] at *; omega
theorem rq_append (q r : List (Nat × ByteArray)) : rq (q ++ r) = rq q ++ rq r := by simp [rq]
theorem rq_at (l : List (Nat × ByteArray)) (k : Nat) (p : Nat × ByteArray) (h : l[k]? = some p) : (rq l)[k * 2]? = some (.int .i64 (p.1 : Int)) ∧ (rq l)[k * 2 + 1]? = some (.string p.2) := by
  induction l generalizing k with
  | nil => simp at h
  | cons q l ih =>
    cases k with
    | zero => simp at h; subst h; simp [rq]
    | succ k =>
      have := ih k (by simpa using h)
      have e : rq (q :: l) = .int .i64 (q.1 : Int) :: .string q.2 :: rq l := rfl
      rw [e, show (k + 1) * 2 = ((k * 2) + 1) + 1 by omega]
      simpa using this
def RQs (w : World) (A : Option Addr) (q : List (Nat × ByteArray)) : Prop := Rd w 2 A q.length (rq q)
theorem RQs.at_ {w : World} {A : Option Addr} {l : List (Nat × ByteArray)} (h : RQs w A l) {k : Nat} {p : Nat × ByteArray} (hk : l[k]? = some p) :
    ∃ b off, A = some ⟨b, off, none⟩ ∧ w.cell? ⟨b, off + k * 2, none⟩ = some (.int .i64 (p.1 : Int)) ∧ w.cell? ⟨b, off + k * 2 + 1, none⟩ = some (.string p.2) := by
  have hl : k < l.length := (List.getElem?_eq_some_iff.1 hk).1
  obtain ⟨b, off, e, hc⟩ := h.2 (by omega)
  obtain ⟨h1, h2⟩ := rq_at l k p hk
  exact ⟨b, off, e, hc _ _ h1, by rw [Nat.add_assoc]; exact hc _ _ h2⟩
theorem RQs.chg {w w' : World} {A : Option Addr} {l : List (Nat × ByteArray)} {F : List Nat} (h : RQs w A l) (hc : Chg F w w') (hF : ∀ a, A = some a → a.block ∉ F) : RQs w' A l := by
  refine ⟨h.1, fun hn => ?_⟩
  obtain ⟨b, off, e, hv⟩ := h.2 hn
  exact ⟨b, off, e, fun j u hu => hc.cell (hF _ e) (hv j u hu)⟩

/-! ### the disk's blocks -/
def rfoot (d sb : Nat) (qv : Value) : List Nat := [d, sb] ++ qv.ownBlock.toList

structure RDkAt (w : World) (d : Nat) (S : DS) (sb c : Nat) (qv : Value) (x y z : Int) : Prop where
  head : Blk w d 52 #[.slice (some ⟨sb, 0, none⟩) S.n c, qv, .bool (!S.off), .bool S.arm.isSome, .int .i64 x, .int .i64 y, .int .i64 z]
  stab : RSt w sb S.n S.st
  queue : w.ownsRow 0 61 2 qv S.q.length (rq S.q)
  armed : ∀ a, S.arm = some a → a = (x, y, z)
  good : S.ok

def RDk (w : World) (d : Nat) (S : DS) (F : List Nat) : Prop := ∃ sb c qv x y z, RDkAt w d S sb c qv x y z ∧ F = rfoot d sb qv

theorem RSt.ne_ {w : World} {sb n g : Nat} {st : List UInt8} {t : TypeId} {cs : Array Value} (h : RSt w sb n st) (h' : Blk w g t cs) (hne : t ≠ 9) : g ≠ sb := by
  obtain ⟨cur, h1, _⟩ := h
  exact h'.ne_ h1 hne
theorem RSt.own_ne {w : World} {sb n : Nat} {st : List UInt8} {base : Nat} {e : TypeId} {size m : Nat} {v : Value} {xs : List Value} (h : RSt w sb n st) (h' : w.ownsRow base e size v m xs) (hne : e ≠ 9) : v.ownBlock ≠ some sb := by
  obtain ⟨cur, h1, _⟩ := h
  exact own_blk_ne h' h1 hne

section
variable {w w' : World} {d sb c : Nat} {S : DS} {qv : Value} {x y z : Int} {F : List Nat}
theorem RDkAt.apart (h : RDkAt w d S sb c qv x y z) : d ≠ sb ∧ qv.ownBlock ≠ some d ∧ qv.ownBlock ≠ some sb :=
  ⟨h.stab.ne_ h.head (by decide), own_blk_ne h.queue h.head (by decide), h.stab.own_ne h.queue (by decide)⟩
theorem RDkAt.lt (h : RDkAt w d S sb c qv x y z) : ∀ k, k ∈ rfoot d sb qv → k < w.heap.size := by
  intro k hk
  simp only [rfoot, List.mem_append, List.mem_cons, Option.mem_toList, List.not_mem_nil, or_false] at hk
  rcases hk with (rfl | rfl) | hk
  · exact h.head.lt
  · exact h.stab.lt
  · exact (h.queue.lt k hk).2
theorem RDk.lt (h : RDk w d S F) : ∀ k, k ∈ F → k < w.heap.size := by
  obtain ⟨sb, c, qv, x, y, z, h1, rfl⟩ := h
  exact h1.lt
theorem RDk.good (h : RDk w d S F) : S.ok := by obtain ⟨_, _, _, _, _, _, h1, _⟩ := h; exact h1.good
theorem RDkAt.chg {F2 : List Nat} (h : RDkAt w d S sb c qv x y z) (hc : Chg F2 w w') (hd : ∀ k, k ∈ rfoot d sb qv → k ∉ F2) : RDkAt w' d S sb c qv x y z :=
  ⟨h.head.chg hc (hd d (by simp [rfoot])), h.stab.chg hc (hd sb (by simp [rfoot])), own_chg h.queue hc (fun k hk => hd k (by simp [rfoot, hk])), h.armed, h.good⟩
theorem RDk.chg {F2 : List Nat} (h : RDk w d S F) (hc : Chg F2 w w') (hd : ∀ k, k ∈ F → k ∉ F2) : RDk w' d S F := by
  obtain ⟨sb, c, qv, x, y, z, h1, rfl⟩ := h
  exact ⟨sb, c, qv, x, y, z, h1.chg hc hd, rfl⟩
theorem RDk.below (h : RDk w d S F) (hc : Below w.heap.size w w') : RDk w' d S F := h.chg (F2 := []) (Chg.of_below hc []) (by simp)
theorem RDk.boxed (h : RDk w d S F) (o : Obj) : RDk (w.alloc o) d S F := h.chg ((Chg.refl [] w).alloc o) (by simp)

def RDkTo (w w' : World) (d : Nat) (F : List Nat) (S' : DS) : Prop := ∃ F', RDk w' d S' F' ∧ (∀ k, k ∈ F' → k ∈ F ∨ w.heap.size ≤ k) ∧ Chg F w w'
theorem RDkTo.of_chg (h : RDk w d S F) (hc : Below w.heap.size w w') : RDkTo w w' d F S := ⟨F, h.below hc, fun _ hk => .inl hk, Chg.of_below hc F⟩
theorem RDkTo.behind {w w1 w2 : World} {d : Nat} {F F1 : List Nat} {S : DS} (hc : Chg F w w1) (hF : ∀ k, k ∈ F1 → k ∈ F ∨ w.heap.size ≤ k) (h : RDkTo w1 w2 d F1 S) : RDkTo w w2 d F S := by
  obtain ⟨F2, k1, k2, k3⟩ := h
  refine ⟨F2, k1, fun j hj => ?_, hc.trans k3 hF⟩
  rcases k2 j hj with h4 | h4
  · exact hF j h4
  · have := hc.size; right; omega
theorem RDkTo.boxed {w w2 : World} {d : Nat} {S : DS} {F : List Nat} (o : Obj) (h : RDkTo (w.alloc o) w2 d F S) : RDkTo w w2 d F S := RDkTo.behind ((Chg.refl F w).alloc o) (fun _ hk => .inl hk) h
theorem RDkTo.chg {w w1 w2 : World} {d : Nat} {S : DS} {F : List Nat} (h : RDkTo w w1 d F S) (hc : Below w1.heap.size w1 w2) : RDkTo w w2 d F S := by
  obtain ⟨F', h1, h2, h3⟩ := h
  exact ⟨F', h1.below hc, h2, h3.trans (Chg.of_below hc []) (by simp)⟩
/-- The disk in the same blocks, other cells. -/
theorem RDkTo.same {S' : DS} {x' y' z' : Int} (hk : RDkAt w' d S' sb c qv x' y' z') (hc : Chg (rfoot d sb qv) w w') : RDkTo w w' d (rfoot d sb qv) S' :=
  ⟨_, ⟨sb, c, qv, x', y', z', hk, rfl⟩, fun _ h => .inl h, hc⟩
end

end Go.Proofs.Ytdbmimmfpglahaa
