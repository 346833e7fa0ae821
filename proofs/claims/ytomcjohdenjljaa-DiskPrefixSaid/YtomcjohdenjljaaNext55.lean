/- DiskPrefix: the next write, and what is torn: pure laws; a struct of six cells stored. -/
import Derived.Test.YtomcjohdenjljaaPre55
import Derived.Deep.RegionWith
namespace Go.Proofs.Ytomcjohdenjljaa
open Go.RowKit

def nilAct : AC := ⟨0, -1, 0, ⟨#[]⟩, false, 0⟩
def nxt (n j : Nat) (m : List AC) : AC := match (m.filter (okw n))[j]? with | some a => a | none => nilAct

theorem nxt_yes {n j : Nat} {m : List AC} {k : Nat} {a : AC} (h : m[k]? = some a) (ho : okw n a = true) : nxt n j (m.take (k + 1)) = if (wqs n (m.take k)).length = j then a else nxt n j (m.take k) := by
  unfold nxt wqs
  rw [filter_take_snoc _ m k a h, ho, List.length_map]
  simp only [if_true]
  by_cases hj : ((m.take k).filter (okw n)).length = j
  · rw [if_pos hj, List.getElem?_append_right (by omega), hj, Nat.sub_self]
    rfl
  · rw [if_neg hj]
    by_cases hlt : j < ((m.take k).filter (okw n)).length
    · rw [List.getElem?_append_left hlt]
    · rw [List.getElem?_append_right (by omega), List.getElem?_eq_none (by simp; omega), List.getElem?_eq_none (by omega)]
theorem nxt_no {n j : Nat} {m : List AC} {k : Nat} {a : AC} (h : m[k]? = some a) (ho : okw n a = false) : nxt n j (m.take (k + 1)) = nxt n j (m.take k) := by
  unfold nxt
  rw [filter_take_snoc _ m k a h, ho]
  simp
theorem nxt_part (n j : Nat) (m : List AC) : (nxt n j m = nilAct ∧ (wqs n m)[j]? = none) ∨ (∃ a, nxt n j m = a ∧ a ∈ m ∧ okw n a = true ∧ (wqs n m)[j]? = some (toq a)) := by
  unfold nxt wqs
  cases h : (m.filter (okw n))[j]? with
  | none => exact .inl ⟨rfl, by rw [List.getElem?_map, h]; rfl⟩
  | some a =>
    have hm := List.mem_filter.1 (List.mem_of_getElem? h)
    exact .inr ⟨a, rfl, hm.1, hm.2, by rw [List.getElem?_map, h]; rfl⟩

theorem info_act : (Try.prog.info? 34).map (·.size) = some 6 := by kernel_rfl

theorem Blk.row {w : World} {b : Nat} {t : TypeId} {old : Array Value} (h : Blk w b t old) (cells : Array Value) : Blk (w.setRow b cells) b t cells := setRow_heap w b old cells t _ h
theorem Chg.row (w : World) (b : Nat) (cells : Array Value) : Chg [b] w (w.setRow b cells) := ⟨rfl, rfl, rfl, by simp [World.setRow], fun k _ hn => setRow_other w b k _ (by simpa using hn)⟩
theorem Keep.row {w0 w wb : World} {G : List (Nat × World)} {F : List Nat} {b : Nat} (h : Keep w0 w ((b, wb) :: G) F) (hd : ∀ p, p ∈ G → p.1 ≠ b) (cells : Array Value) :
    Keep w0 (w.setRow b cells) ((b, w.setRow b cells) :: G) F := by
  obtain ⟨hb1, hb2, hb3, hb4⟩ := h.kept (b, wb) (List.mem_cons_self)
  have hc := Chg.row w b cells
  have hs : (w.setRow b cells).heap.size = w.heap.size := by simp [World.setRow]
  refine ⟨h.below.trans (hc.below (B := w0.heap.size) (fun k hk => by rcases List.mem_singleton.1 hk with rfl; exact hb1) h.below.size), h.low, fun p hp => ?_⟩
  rcases List.mem_cons.1 hp with rfl | hp'
  · exact ⟨hb1, by rw [hs]; exact hb2, hb3, rfl⟩
  · obtain ⟨a1, a2, a3, a4⟩ := h.kept p (List.mem_cons_of_mem _ hp')
    exact ⟨a1, by rw [hs]; exact a2, a3, (hc.block p.1 a2 (by simpa using hd p hp')).trans a4⟩
theorem Own.row {w0 w wb : World} {d b : Nat} {S : DS} {G : List (Nat × World)} (h : Own w0 w d S ((b, wb) :: G)) (hd : ∀ p, p ∈ G → p.1 ≠ b) (cells : Array Value) : Own w0 (w.setRow b cells) d S ((b, w.setRow b cells) :: G) := by
  obtain ⟨F, h1, h2⟩ := h
  obtain ⟨_, _, hb3, _⟩ := h2.kept (b, wb) (List.mem_cons_self)
  exact ⟨F, h1.chg (F2 := [b]) (Chg.row w b cells) (fun k hk hm => by
    rcases List.mem_singleton.1 hm with rfl
    exact hb3 hk), h2.row hd cells⟩

/-! ### what a torn failure leaves -/
theorem wq_view (S : DS) (hg : S.ok) (q : List (Nat × ByteArray)) (hq : inQ S.n q) (i : Nat) : (S.wq q).view i = secB (settle S.st q) i := viewL_settle S.n i q S.st hg.len hq

theorem fail_wq (S : DS) (h : S.off = false) (q : List (Nat × ByteArray)) (j b : Nat) : ((S.wq q).fail (j : Int) (b : Int)).start =
    { n := S.n, st := match q[min j q.length]? with | some p => put (settle S.st (q.take (min j q.length))) p.1 (p.2.data.toList.take (min b 64)) | none => settle S.st (q.take (min j q.length)), q := [], off := false, arm := none } := by
  unfold DS.fail DS.wq
  simp only [h, Bool.false_eq_true, if_false, DS.start]
  have h1 : min (max (j : Int) 0).toNat q.length = min j q.length := by omega
  have h2 : (min (max (b : Int) 0) 64).toNat = min b 64 := by omega
  simp only [h1, h2]
  cases q[min j q.length]? <;> rfl

theorem prefix_none (S : DS) (h : S.off = false) (hg : S.ok) (q : List (Nat × ByteArray)) (hq : inQ S.n q) (j b : Nat) (hn : q[j]? = none) : ((S.wq q).fail (j : Int) (b : Int)).start.views = (S.wq (q.take j)).views := by
  have hl : q.length ≤ j := List.getElem?_eq_none_iff.1 hn
  rw [fail_wq S h, Nat.min_eq_right hl, List.getElem?_eq_none (Nat.le_refl _), List.take_of_length_le hl, List.take_of_length_le (Nat.le_refl _)]
  exact views_ext _ _ rfl (fun i _ => (wq_view S hg q hq i).symm)

theorem prefix_some (S : DS) (h : S.off = false) (hg : S.ok) (q : List (Nat × ByteArray)) (hq : inQ S.n q) (j b : Nat) (hb : b ≤ 64) (s : Nat) (t v : ByteArray) (hp : q[j]? = some (s, t)) (hv : (S.wq (q.take j)).views[s]? = some v) :
    v.size = 64 ∧ s < S.n ∧ ((S.wq q).fail (j : Int) (b : Int)).start.views = (S.wq (q.take j)).views.set s (t.extract 0 b ++ v.extract b v.size) := by
  have hl : j < q.length := (List.getElem?_eq_some_iff.1 hp).1
  have h1 := hq (s, t) (List.mem_of_getElem? hp)
  have hsz : (settle S.st (q.take j)).length = S.n * 64 := settle_len S.n _ _ hg.len (hq.take j)
  have hs : s < S.n := h1.1
  rw [views_at (S.wq (q.take j)) s hs, wq_view S hg _ (hq.take j)] at hv
  have hv' : secB (settle S.st (q.take j)) s = v := Option.some.inj hv
  have z1 : (secL (settle S.st (q.take j)) s).length = 64 := secL_length _ S.n _ hsz hs
  have hvz : v.size = 64 := by rw [← hv']; exact z1
  refine ⟨hvz, hs, ?_⟩
  rw [fail_wq S h, Nat.min_eq_left (Nat.le_of_lt hl), hp, Nat.min_eq_left hb]
  simp only
  have hlt : (t.data.toList.take b).length = b := by rw [List.length_take, ba_len]; have := h1.2; simp only at this; omega
  apply List.ext_getElem?
  intro i
  rw [List.getElem?_set]
  by_cases hi : i < S.n
  · rw [views_at (⟨S.n, put (settle S.st (q.take j)) s (t.data.toList.take b), [], false, none⟩ : DS) i hi]
    have e0 : (⟨S.n, put (settle S.st (q.take j)) s (t.data.toList.take b), [], false, none⟩ : DS).view i = secB (put (settle S.st (q.take j)) s (t.data.toList.take b)) i := rfl
    rw [e0]
    by_cases he : s = i
    · subst he
      rw [if_pos rfl, if_pos (by rw [views_length]; exact hs)]
      congr 1
      unfold secB
      rw [secL_put_same _ _ _ (by omega) (by omega), hlt]
      apply ByteArray.ext
      rw [ByteArray.data_append]
      apply Array.toList_inj.1
      rw [Array.toList_append, ByteArray.data_extract, ByteArray.data_extract, ← hv']
      simp only [secB, Array.toList_extract, List.extract_eq_take_drop, Nat.sub_zero, List.drop_zero]
      congr 1
      exact (List.take_of_length_le (by rw [List.length_drop]; exact Nat.le_refl _)).symm
    · rw [if_neg he, views_at (S.wq (q.take j)) i hi, wq_view S hg _ (hq.take j)]
      congr 1
      unfold secB
      rw [secL_put_ne _ _ _ _ (by omega) (by omega) (fun e => he e.symm)]
  · rw [List.getElem?_eq_none (by rw [views_length]; exact Nat.le_of_not_lt hi), if_neg (fun e => hi (by omega)), List.getElem?_eq_none (by rw [views_length]; exact Nat.le_of_not_lt hi)]

end Go.Proofs.Ytomcjohdenjljaa
