/- More of what the disk's laws share: pure laws on failures, views; contracts at n. -/
import Derived.Test.YtomcjohdenjljaaLBase55
namespace Go.Proofs.Ytomcjohdenjljaa
open Go.RowKit

theorem below_drewN {B : Nat} {w w1 : World} (h : Below B w w1) (q : Nat) : Below B w (w1.drewN q) := ⟨h.os, h.tape, h.output, h.size, h.block⟩

theorem same_at (n b b2 c c2 : Nat) (l m : List ByteArray) (w : World) (hA : Strs w (some ⟨b, 0, none⟩) l) (hB : Strs w (some ⟨b2, 0, none⟩) m) (hl : l.length = n) (hm : m.length = n) (hn : n ≤ 4000) :
    Calls Try.prog 27 #[.slice (some ⟨b, 0, none⟩) n c, .slice (some ⟨b2, 0, none⟩) n c2] w fun e w' => e = .returned (.bool (decide (l = m))) ∧ Below w.heap.size w w' := by
  have h := same_any (some ⟨b, 0, none⟩) (some ⟨b2, 0, none⟩) c c2 l m w hA hB (by omega) (by omega)
  rw [hl, hm] at h
  refine h.mono ?_
  rintro e w' ⟨rfl, q, rfl⟩
  exact ⟨rfl, below_drewN (Below.refl _ _) q⟩

/-! ### failures -/
theorem fail_all (S : DS) (h : S.on) (hq : S.q.length ≤ 60) (b : Int) : S.fail 60 b = { n := S.n, st := settle S.st S.q, q := [], off := true, arm := none } := by
  unfold DS.fail
  rw [h.1]
  have h1 : min (max (60 : Int) 0).toNat S.q.length = S.q.length := by
    have : (max (60 : Int) 0).toNat = 60 := rfl
    omega
  simp only [h1, List.take_length]
  rw [List.getElem?_eq_none (Nat.le_refl _)]
  simp
theorem fail_off (S : DS) (h : S.off = true) (a b : Int) : S.fail a b = S := by unfold DS.fail; rw [h]; rfl
theorem fail_empty (S : DS) (h : S.off = false) (hq : S.q = []) (a b : Int) : S.fail a b = { n := S.n, st := S.st, q := [], off := true, arm := none } := by
  unfold DS.fail
  rw [h, hq]
  simp [settle]

theorem all_pure (S : DS) (h : S.on) (hq : S.q.length ≤ 60) (b m : Int) :
    S.sync.1 = 0 ∧ ((S.fail 60 b).fail m b).start.start.off = false ∧ ((S.fail 60 b).fail m b).start.start.n = S.n ∧ (S.sync.2.fail 0 b).start.off = false ∧ (S.sync.2.fail 0 b).start.n = S.n ∧
      ((S.fail 60 b).fail m b).start.start.views = (S.sync.2.fail 0 b).start.views := by
  have h1 := fail_all S h hq b
  have h2 := sync_on S h
  have h3 : (S.fail 60 b).fail m b = S.fail 60 b := fail_off _ (by rw [h1]) _ _
  have h4 := fail_empty S.sync.2 (by rw [h2]; exact h.1) (by rw [h2]) 0 b
  rw [h3, h4, h1, h2]
  exact ⟨rfl, rfl, rfl, rfl, rfl, rfl⟩

/-! ### a disk that is off -/
theorem write_off (S : DS) (h : S.off = true) (s : Int) (t : ByteArray) : S.write s t = (28, S) := by
  unfold DS.write DS.errAt; rw [h]; rfl
theorem read_off (S : DS) (h : S.off = true) (s : Int) : S.read s = (ByteArray.empty, 28) := by
  unfold DS.read DS.errAt; rw [h]; rfl
theorem fail_off_ (S : DS) (a b : Int) : (S.fail a b).off = true := by
  unfold DS.fail
  cases h : S.off
  · rfl
  · simpa using h

/-! ### a list of strings of the call's own, one element replaced -/
theorem strs_set {w : World} {b n s : Nat} {cur : Array Value} {xs : List ByteArray} (h : Blk w b 9 cur) (hc : cur.toList.take n = xs.map Value.string) (hl : xs.length = n) (hs : s < n) (hsz : n ≤ cur.size) (t : ByteArray) :
    Strs (w.setCell ⟨b, s, none⟩ (.string t)) (some ⟨b, 0, none⟩) (xs.set s t) := by
  unfold Strs
  refine ⟨by simp, fun _ => ⟨b, 0, rfl, fun j u hu => ?_⟩⟩
  rw [Nat.zero_add, (h.set s (.string t)).cell j, Array.getElem?_setIfInBounds]
  rw [List.getElem?_map, List.getElem?_set] at hu
  by_cases hj : s = j
  · subst hj
    rw [if_pos rfl, if_pos (by omega)]
    rw [if_pos rfl, if_pos (by omega)] at hu
    exact hu
  · rw [if_neg hj]
    rw [if_neg hj] at hu
    have hjn : j < n := by
      have : j < xs.length := by
        rcases Nat.lt_or_ge j xs.length with h1 | h1
        · exact h1
        · rw [List.getElem?_eq_none h1] at hu; cases hu
      omega
    have h2 : (cur.toList.take n)[j]? = (xs.map Value.string)[j]? := by rw [hc]
    rw [List.getElem?_take, if_pos hjn, Array.getElem?_toList, List.getElem?_map] at h2
    rw [h2]; exact hu

theorem bx (a b : UInt8) : wrap64 (bits .xor .u8 (a.toNat : Int) (b.toNat : Int)) = ((a ^^^ b).toNat : Int) := by
  have h1 := a.toNat_lt
  have h2 := b.toNat_lt
  have h3 := (a ^^^ b).toNat_lt
  rw [bits_xor_u8 _ _ (by omega) (by omega), ← UInt8.toNat_xor, IntWalk.wrap64_in _ ⟨by omega, by omega⟩]

/-! ### rot -/
theorem rot_off (S : DS) (a b c : Int) : (S.rot a b c).off = S.off := by unfold DS.rot; split <;> rfl
theorem modify_modify {α : Type} (l : List α) (i : Nat) (f : α → α) (hf : ∀ x, f (f x) = x) : (l.modify i f).modify i f = l := by
  apply List.ext_getElem?
  intro j
  simp only [List.getElem?_modify]
  split
  · cases l[j]? with
    | none => rfl
    | some x => simp [hf]
  · simp
theorem xor_xor (x m : UInt8) : (x ^^^ m) ^^^ m = x := by
  apply UInt8.toNat_inj.1
  simp only [UInt8.toNat_xor]
  rw [Nat.xor_assoc, Nat.xor_self, Nat.xor_zero]
theorem rot_rot (S : DS) (a b c : Int) : (S.rot a b c).rot a b c = S := by
  unfold DS.rot
  by_cases h : 0 ≤ a ∧ a < S.n ∧ 0 ≤ b ∧ b < 64 ∧ 0 < c ∧ c < 256
  · rw [if_pos h]
    simp only [if_pos h]
    rw [modify_modify _ _ _ (fun x => xor_xor x _)]
  · rw [if_neg h, if_neg h]

/-- What rot does to each byte that is read. -/
theorem rot_bits (S : DS) (a b c : Int) (hq : S.q = []) (hg : S.ok) (i : Nat) (v u : ByteArray) (hv : S.views[i]? = some v) (hu : (S.rot a b c).views[i]? = some u) :
    v.size = 64 ∧ u.size = 64 ∧ ∀ (k : Nat) (h1 : k < v.size) (h2 : k < u.size), ((v[k] ^^^ u[k]).toNat : Int) = if (0 ≤ a ∧ a < S.n ∧ 0 ≤ b ∧ b < 64 ∧ 1 ≤ c ∧ c ≤ 255) ∧ (i : Int) = a ∧ (k : Int) = b then c else 0 := by
  have hi : i < S.n := by
    have := (List.getElem?_eq_some_iff.1 hv).1
    rwa [views_length] at this
  rw [views_at S i hi] at hv
  rw [views_at (S.rot a b c) i (by rw [rot_n]; exact hi)] at hu
  have hvz := view_size S hg i hi
  have e1 : S.view i = secB S.st i := by rw [view_eq, hq]; rfl
  have e2 : (S.rot a b c).view i = secB (S.rot a b c).st i := by rw [view_eq, rot_q, hq]; rfl
  have hl := hg.len
  have hlen : (S.rot a b c).st.length = S.n * 64 := by
    unfold DS.rot
    split
    · simp [hl]
    · exact hl
  have hv' : secB S.st i = v := by rw [← e1]; exact Option.some.inj hv
  have hu' : secB (S.rot a b c).st i = u := by rw [← e2]; exact Option.some.inj hu
  have z1 : (secL S.st i).length = 64 := secL_length _ S.n _ hl hi
  have z2 : (secL (S.rot a b c).st i).length = 64 := secL_length _ S.n _ hlen hi
  refine ⟨by rw [← hv']; exact z1, by rw [← hu']; exact z2, fun k h1 h2 => ?_⟩
  have hk : k < 64 := by rw [← hv'] at h1; exact Nat.lt_of_lt_of_eq h1 z1
  have g1 : S.st[i * 64 + k]? = some v[k] := by
    have h3 : (secL S.st i)[k]? = some v[k] := by
      subst hv'
      exact List.getElem?_eq_getElem h1
    rw [secL_get, if_pos hk] at h3
    exact h3
  have g2 : (S.rot a b c).st[i * 64 + k]? = some u[k] := by
    have h3 : (secL (S.rot a b c).st i)[k]? = some u[k] := by
      subst hu'
      exact List.getElem?_eq_getElem h2
    rw [secL_get, if_pos hk] at h3
    exact h3
  by_cases hval : 0 ≤ a ∧ a < S.n ∧ 0 ≤ b ∧ b < 64 ∧ 1 ≤ c ∧ c ≤ 255
  · have hval' : 0 ≤ a ∧ a < S.n ∧ 0 ≤ b ∧ b < 64 ∧ 0 < c ∧ c < 256 := by omega
    unfold DS.rot at g2
    rw [if_pos hval'] at g2
    simp only [List.getElem?_modify, g1, Option.map_eq_map, Option.map_some] at g2
    by_cases hik : (i : Int) = a ∧ (k : Int) = b
    · rw [if_pos ⟨hval, hik⟩]
      have h3 : a.toNat * 64 + b.toNat = i * 64 + k := by omega
      rw [if_pos h3] at g2
      have h4 : v[k] ^^^ UInt8.ofNat c.toNat = u[k] := by simpa using g2
      have h5 : v[k] ^^^ u[k] = UInt8.ofNat c.toNat := by
        rw [← h4]
        apply UInt8.toNat_inj.1
        simp only [UInt8.toNat_xor]
        rw [← Nat.xor_assoc, Nat.xor_self, Nat.zero_xor]
      rw [h5, UInt8.toNat_ofNat']
      omega
    · rw [if_neg (fun h => hik h.2)]
      have h3 : ¬ a.toNat * 64 + b.toNat = i * 64 + k := fun h => hik (by omega)
      rw [if_neg h3] at g2
      have h4 : v[k] = u[k] := by simpa using g2
      rw [h4]
      simp [UInt8.toNat_xor]
  · have hval' : ¬ (0 ≤ a ∧ a < S.n ∧ 0 ≤ b ∧ b < 64 ∧ 0 < c ∧ c < 256) := by omega
    unfold DS.rot at g2
    rw [if_neg hval', g1] at g2
    rw [if_neg (fun h => hval h.1)]
    have h4 : v[k] = u[k] := by simpa using g2
    rw [h4]
    simp [UInt8.toNat_xor]

/-! ### what a failure leaves -/
theorem info_bool : (Try.prog.info? 4).map (fun i => (i.zero, i.size, i.bytes)) = some (some (.bool false), 1, 1) := by kernel_rfl

theorem blk_made1 {w : World} {e : TypeId} {z : Value} {g n base : Nat} (h : w.ownsRow base e 1 (.slice (some ⟨g, 0, none⟩) n n) n (madeCells #[z] n).toList) (_hn : 0 < n) : Blk w g e (List.replicate n z).toArray := by
  rcases h.2 with ⟨h2, _⟩ | ⟨g', cap, cur, hv, _, hg, hn', _, hs, ht⟩
  · simp at h2
  · simp only [Value.slice.injEq, Option.some.injEq, Addr.mk.injEq, and_true, true_and] at hv
    obtain ⟨rfl, rfl⟩ := hv
    rw [List.take_of_length_le (by simp [hs])] at ht
    have e : cur = (List.replicate n z).toArray := by
      apply Array.toList_inj.1
      rw [ht]
      apply List.ext_getElem?
      intro j
      by_cases hj : j < n
      · simp [madeCells, hj, Nat.mod_one]
      · simp [madeCells, hj]
    rw [e] at hg
    exact hg

theorem Own.now {w0 w : World} {d : Nat} {S : DS} {b : Nat} {wb : World} {G : List (Nat × World)} (h : Own w0 w d S ((b, wb) :: G)) : Own w0 w d S ((b, w) :: G) := by
  obtain ⟨F, h1, h2⟩ := h
  exact ⟨F, h1, h2.below, h2.low, fun p hp => by
    rcases List.mem_cons.1 hp with rfl | hp'
    · obtain ⟨a1, a2, a3, _⟩ := h2.kept (b, wb) (List.mem_cons_self)
      exact ⟨a1, a2, a3, rfl⟩
    · exact h2.kept p (List.mem_cons_of_mem _ hp')⟩

theorem fail_view (S : DS) (h : S.off = false) (hg : S.ok) (a b : Int) (i : Nat) (hi : ∀ p ∈ S.q, p.1 ≠ i) : (S.fail a b).start.view i = secB S.st i := by
  unfold DS.fail
  rw [h]
  simp only [Bool.false_eq_true, if_false, DS.start]
  rw [view_eq]
  obtain ⟨N, hN⟩ : ∃ N, min (max a 0).toNat S.q.length = N := ⟨_, rfl⟩
  rw [hN]
  have hq : inQ S.n S.q := hg.inq
  have hl : (settle S.st (S.q.take N)).length = S.n * 64 := settle_len S.n _ _ hg.len (hq.take N)
  have hfar : secB (settle S.st (S.q.take N)) i = secB S.st i := secB_settle_far S.n i _ _ hg.len (hq.take N) (fun p hp => hi p (List.mem_of_mem_take hp))
  cases hp : S.q[N]? with
  | none => exact hfar
  | some p =>
    have hm : p ∈ S.q := List.mem_of_getElem? hp
    have h1 := hq p hm
    have h3 : (p.2.data.toList.take (min (max b 0) 64).toNat).length ≤ 64 := by
      have h5 : (min (max b 0) 64).toNat ≤ 64 := by omega
      rw [List.length_take]; omega
    show secB (put (settle S.st (S.q.take N)) p.1 (p.2.data.toList.take (min (max b 0) 64).toNat)) i = _
    rw [← hfar]
    unfold secB
    rw [secL_put_ne _ _ _ _ (by omega) h3 (fun e => hi p hm e.symm)]

structure StabInv (n : Nat) (S2 S : DS) (ws : List Bool) : Prop where
  on : S.on
  n_ : S.n = n
  st : S.st = S2.st
  len : ws.length = n
  mem : ∀ p ∈ S.q, ws[p.1]? = some true

theorem StabInv.step {n : Nat} {S2 S S' : DS} {ws : List Bool} (h : StabInv n S2 S ws) (s : Nat) (tx : ByteArray) (hs : s < n) (e : S' = { S with q := S.q ++ [((s : Int).toNat, tx)] }) : StabInv n S2 S' (ws.set s true) := by
  subst e
  refine ⟨h.on, h.n_, h.st, by rw [List.length_set]; exact h.len, fun p hp => ?_⟩
  rw [List.getElem?_set]
  split
  · rw [if_pos (by rw [h.len]; exact hs)]
  · rename_i hne
    rcases List.mem_append.1 hp with h1 | h1
    · exact h.mem p h1
    · rcases List.mem_singleton.1 h1 with rfl
      exact absurd (by simp) hne

theorem StabInv.view {n : Nat} {S2 S : DS} {ws : List Bool} (h : StabInv n S2 S ws) (hq : S2.q = []) (hg : S.ok) (a b : Int) (i : Nat) (hi : ws[i]? = some false) : (S.fail a b).start.view i = S2.view i := by
  rw [fail_view S h.on.1 hg a b i (fun p hp e => by
    have := h.mem p hp
    rw [e, hi] at this
    cases this), h.st, view_eq, hq]
  rfl

end Go.Proofs.Ytomcjohdenjljaa
