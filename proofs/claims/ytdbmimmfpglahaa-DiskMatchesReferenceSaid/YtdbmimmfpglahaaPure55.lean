/- Pure laws of the disk. -/
import Derived.Test.YtdbmimmfpglahaaView55
namespace Go.Proofs.Ytdbmimmfpglahaa
open Go.RowKit


/-! ### pure laws of the disk's state -/
def secL (st : List UInt8) (i : Nat) : List UInt8 := (st.drop (i * 64)).take 64
def secB (st : List UInt8) (i : Nat) : ByteArray := ⟨(secL st i).toArray⟩

theorem secL_get (st : List UInt8) (i j : Nat) : (secL st i)[j]? = if j < 64 then st[i * 64 + j]? else none := by
  simp only [secL, List.getElem?_take, List.getElem?_drop]

theorem put_get (st t : List UInt8) (s j : Nat) (h : s * 64 + t.length ≤ st.length) :
    (put st s t)[j]? = if j < s * 64 then st[j]? else if j < s * 64 + t.length then t[j - s * 64]? else st[j]? := by
  unfold put
  have h1 : (st.take (s * 64)).length = s * 64 := by rw [List.length_take]; omega
  by_cases hj : j < s * 64
  · rw [if_pos hj, List.append_assoc, List.getElem?_append_left (by omega), List.getElem?_take, if_pos hj]
  · rw [if_neg hj, List.append_assoc, List.getElem?_append_right (by omega), h1]
    by_cases hj2 : j < s * 64 + t.length
    · rw [if_pos hj2, List.getElem?_append_left (by omega)]
    · rw [if_neg hj2, List.getElem?_append_right (by omega), List.getElem?_drop]
      congr 1; omega

theorem put_len (st t : List UInt8) (s : Nat) (h : s * 64 + t.length ≤ st.length) : (put st s t).length = st.length := by
  simp only [put, List.length_append, List.length_take, List.length_drop]; omega

theorem secL_put_ne (st t : List UInt8) (s i : Nat) (h : s * 64 + t.length ≤ st.length) (ht : t.length ≤ 64) (hi : i ≠ s) : secL (put st s t) i = secL st i := by
  apply List.ext_getElem?
  intro j
  rw [secL_get, secL_get]
  split
  · rw [put_get _ _ _ _ h]
    split
    · rfl
    · split
      · omega
      · rfl
  · rfl

theorem secL_put_same (st t : List UInt8) (s : Nat) (h : s * 64 + 64 ≤ st.length) (ht : t.length ≤ 64) : secL (put st s t) s = t ++ (secL st s).drop t.length := by
  apply List.ext_getElem?
  intro j
  rw [secL_get]
  by_cases hj : j < t.length
  · rw [if_pos (by omega), put_get _ _ _ _ (by omega), if_neg (by omega), if_pos (by omega), List.getElem?_append_left hj]
    congr 1; omega
  · rw [List.getElem?_append_right (by omega), List.getElem?_drop, secL_get]
    have e : t.length + (j - t.length) = j := by omega
    rw [e]
    split
    · rw [put_get _ _ _ _ (by omega), if_neg (by omega), if_neg (by omega)]
    · rfl

theorem secL_length (st : List UInt8) (n i : Nat) (h : st.length = n * 64) (hi : i < n) : (secL st i).length = 64 := by
  simp only [secL, List.length_take, List.length_drop]; omega

theorem put_full (st t : List UInt8) (s : Nat) (h : s * 64 + 64 ≤ st.length) (ht : t.length = 64) : secL (put st s t) s = t := by
  rw [secL_put_same _ _ _ h (by omega), List.drop_of_length_le, List.append_nil]
  simp only [secL, List.length_take, List.length_drop]; omega

def inQ (n : Nat) (q : List (Nat × ByteArray)) : Prop := ∀ p, p ∈ q → p.1 < n ∧ p.2.size = 64

theorem inQ.take {n : Nat} {q : List (Nat × ByteArray)} (h : inQ n q) (k : Nat) : inQ n (q.take k) := fun p hp => h p (List.mem_of_mem_take hp)

theorem ba_len (t : ByteArray) : t.data.toList.length = t.size := rfl

theorem settle_len (n : Nat) (q : List (Nat × ByteArray)) (st : List UInt8) (h : st.length = n * 64) (hq : inQ n q) : (settle st q).length = n * 64 := by
  induction q generalizing st with
  | nil => exact h
  | cons p l ih =>
    have hp := hq p (List.mem_cons_self)
    refine ih _ ?_ (fun p hp => hq p (List.mem_cons_of_mem _ hp))
    rw [put_len _ _ _ (by rw [ba_len]; omega), h]

def viewL (st : List UInt8) (q : List (Nat × ByteArray)) (i : Nat) : ByteArray := match q.reverse.find? (fun p => p.1 == i) with | some p => p.2 | none => secB st i

theorem view_eq (S : DS) (i : Nat) : S.view i = viewL S.st S.q i := rfl

theorem secB_put (st : List UInt8) (n i : Nat) (p : Nat × ByteArray) (h : st.length = n * 64) (hp : p.1 < n ∧ p.2.size = 64) : secB (put st p.1 p.2.data.toList) i = if i = p.1 then p.2 else secB st i := by
  unfold secB
  by_cases hi : i = p.1
  · rw [if_pos hi, hi, put_full _ _ _ (by omega) (by rw [ba_len]; omega)]
  · rw [if_neg hi, secL_put_ne _ _ _ _ (by rw [ba_len]; omega) (by rw [ba_len]; omega) hi]

theorem viewL_cons (st : List UInt8) (n i : Nat) (p : Nat × ByteArray) (l : List (Nat × ByteArray)) (h : st.length = n * 64) (hp : p.1 < n ∧ p.2.size = 64) :
    viewL st (p :: l) i = viewL (put st p.1 p.2.data.toList) l i := by
  simp only [viewL, List.reverse_cons, List.find?_append]
  cases hf : l.reverse.find? (fun p => p.1 == i) with
  | some r => rfl
  | none =>
    simp only [Option.none_or, secB_put st n i p h hp]
    by_cases hi : p.1 = i
    · simp [List.find?, hi]
    · have : ¬ i = p.1 := fun e => hi e.symm
      have h2 : (p.1 == i) = false := by simpa using hi
      simp [List.find?, h2, this]

/-- What is read is what is there after all writes are settled. -/
theorem viewL_settle (n i : Nat) (q : List (Nat × ByteArray)) (st : List UInt8) (h : st.length = n * 64) (hq : inQ n q) : viewL st q i = secB (settle st q) i := by
  induction q generalizing st with
  | nil => rfl
  | cons p l ih =>
    have hp := hq p (List.mem_cons_self)
    rw [viewL_cons st n i p l h hp]
    exact ih _ (by rw [put_len _ _ _ (by rw [ba_len]; omega), h]) (fun p hp => hq p (List.mem_cons_of_mem _ hp))

theorem view_settle (S : DS) (hg : S.ok) (i : Nat) : S.view i = secB (settle S.st S.q) i := viewL_settle S.n i S.q S.st hg.len hg.inq

theorem settle_append (a b : List (Nat × ByteArray)) (st : List UInt8) : settle st (a ++ b) = settle (settle st a) b := by
  induction a generalizing st with
  | nil => rfl
  | cons p l ih => exact ih _

theorem secB_settle_far (n i : Nat) (q : List (Nat × ByteArray)) (st : List UInt8) (h : st.length = n * 64) (hq : inQ n q) (hi : ∀ p ∈ q, p.1 ≠ i) : secB (settle st q) i = secB st i := by
  induction q generalizing st with
  | nil => rfl
  | cons p l ih =>
    have hp := hq p (List.mem_cons_self)
    show secB (settle (put st p.1 p.2.data.toList) l) i = _
    rw [ih _ (by rw [put_len _ _ _ (by rw [ba_len]; omega), h]) (fun p hp => hq p (List.mem_cons_of_mem _ hp)) (fun p hp => hi p (List.mem_cons_of_mem _ hp)),
      secB_put st n i p h hp, if_neg (fun e => hi p (List.mem_cons_self) e.symm)]

/-! ### the length and the number of sectors -/
theorem fail_n (S : DS) (a b : Int) : (S.fail a b).n = S.n := by unfold DS.fail; split <;> rfl
theorem count_n (S : DS) : S.count.2.n = S.n := by
  unfold DS.count
  split
  · rfl
  · split
    · rfl
    · exact fail_n _ _ _
theorem write_n (S : DS) (s : Int) (t : ByteArray) : (S.write s t).2.n = S.n := by
  unfold DS.write
  split
  · rfl
  · split
    · rfl
    · exact count_n _
theorem sync_n (S : DS) : S.sync.2.n = S.n := by
  unfold DS.sync
  split
  · rfl
  · split
    · exact count_n _
    · exact count_n _
theorem rot_n (S : DS) (a b c : Int) : (S.rot a b c).n = S.n := by unfold DS.rot; split <;> rfl
theorem setArm_n (S : DS) (a b c : Int) : (S.setArm a b c).n = S.n := by unfold DS.setArm; split <;> rfl
theorem act_n (S : DS) (a : AC) : (S.act a).2.n = S.n := by
  unfold DS.act
  repeat' split
  all_goals first | rfl | exact write_n _ _ _ | exact sync_n _ | exact fail_n _ _ _ | exact rot_n _ _ _ _ | exact setArm_n _ _ _ _

theorem fail_q (S : DS) (a b : Int) : (S.fail a b).q.length ≤ S.q.length := by
  unfold DS.fail; split
  · exact Nat.le_refl _
  · exact Nat.zero_le _
theorem count_q (S : DS) : S.count.2.q.length ≤ S.q.length := by
  unfold DS.count
  split
  · exact Nat.le_refl _
  · split
    · exact Nat.le_refl _
    · exact fail_q _ _ _
theorem write_q (S : DS) (s : Int) (t : ByteArray) : (S.write s t).2.q.length ≤ S.q.length + 1 := by
  unfold DS.write
  split
  · exact Nat.le_succ _
  · split
    · exact Nat.le_succ _
    · exact Nat.le_trans (count_q _) (by simp)
theorem sync_q (S : DS) : S.sync.2.q.length ≤ S.q.length := by
  unfold DS.sync
  split
  · exact Nat.le_refl _
  · split
    · exact count_q _
    · exact Nat.zero_le _
theorem rot_q (S : DS) (a b c : Int) : (S.rot a b c).q = S.q := by unfold DS.rot; split <;> rfl
theorem setArm_q (S : DS) (a b c : Int) : (S.setArm a b c).q = S.q := by unfold DS.setArm; split <;> rfl
theorem act_q (S : DS) (a : AC) : (S.act a).2.q.length ≤ S.q.length + 1 := by
  unfold DS.act
  repeat' split
  all_goals first
    | exact write_q _ _ _ | exact Nat.le_succ _
    | exact Nat.le_trans (sync_q _) (Nat.le_succ _) | exact Nat.le_trans (fail_q _ _ _) (Nat.le_succ _)
    | (simp only [rot_q, setArm_q]; exact Nat.le_succ _)

def acts (S : DS) (l : List AC) : DS := l.foldl (fun S a => (S.act a).2) S
theorem acts_n (S : DS) (l : List AC) : (acts S l).n = S.n := by
  unfold acts
  induction l generalizing S with
  | nil => rfl
  | cons a l ih => exact (ih _).trans (act_n S a)
theorem acts_q (S : DS) (l : List AC) : (acts S l).q.length ≤ S.q.length + l.length := by
  unfold acts
  induction l generalizing S with
  | nil => exact Nat.le_refl _
  | cons a l ih =>
    have := ih (S.act a).2
    have h := act_q S a
    simp only [List.foldl_cons, List.length_cons]
    omega
theorem acts_snoc (S : DS) (l : List AC) (k : Nat) (a : AC) (h : l[k]? = some a) : acts S (l.take (k + 1)) = ((acts S (l.take k)).act a).2 := by
  have e : l.take (k + 1) = l.take k ++ [a] := by
    rw [List.take_add_one, h]; rfl
  unfold acts
  rw [e, List.foldl_append]
  rfl
theorem acts_few (n k : Nat) (l : List AC) (hl : l.length ≤ 60) : (acts (DS.new n) (l.take k)).q.length ≤ 60 := by
  have := acts_q (DS.new n) (l.take k)
  have h2 : (DS.new n).q.length = 0 := rfl
  have h3 : (l.take k).length ≤ l.length := by rw [List.length_take]; omega
  omega

/-! ### a disk that is on, and not armed -/
def DS.on (S : DS) : Prop := S.off = false ∧ S.arm = none
theorem start_on (S : DS) : S.start.on := ⟨rfl, rfl⟩

theorem write_on (S : DS) (h : S.on) (s : Int) (t : ByteArray) :
    ((0 ≤ s ∧ s < S.n ∧ t.size = 64) ∧ S.write s t = (0, { S with q := S.q ++ [(s.toNat, t)] })) ∨ (¬ (0 ≤ s ∧ s < S.n ∧ t.size = 64) ∧ S.write s t = (1, S)) := by
  obtain ⟨h1, h2⟩ := h
  unfold DS.write DS.errAt
  rw [h1]
  by_cases h3 : 0 ≤ s ∧ s < S.n
  · by_cases h4 : t.size = 64
    · left
      simp [h3, h4, DS.count, h2]
    · right
      simp [h3, h4]
  · right
    refine ⟨fun e => h3 ⟨e.1, e.2.1⟩, ?_⟩
    simp [h3]

theorem sync_on (S : DS) (h : S.on) : S.sync = (0, { S with st := settle S.st S.q, q := [] }) := by
  obtain ⟨h1, h2⟩ := h
  simp [DS.sync, h1, DS.count, h2]

theorem views_ext (S T : DS) (hn : S.n = T.n) (h : ∀ i, i < S.n → S.view i = T.view i) : S.views = T.views := by
  unfold DS.views
  rw [← hn]
  exact List.map_congr_left (fun i hi => h i (List.mem_range.1 hi))

theorem views_synced (S : DS) (hg : S.ok) : ({ S with st := settle S.st S.q, q := [] } : DS).views = S.views :=
  views_ext _ _ rfl (fun i _ => (view_settle S hg i).symm)

theorem views_wrote (S : DS) (s : Nat) (t : ByteArray) (hs : s < S.n) : ({ S with q := S.q ++ [(s, t)] } : DS).views = S.views.set s t := by
  apply List.ext_getElem?
  intro i
  rw [List.getElem?_set]
  by_cases hi : i < S.n
  · rw [views_at S i hi, views_at ({ S with q := S.q ++ [(s, t)] }) i hi, views_length]
    simp only [view_eq, viewL, List.reverse_append, List.reverse_cons, List.reverse_nil, List.nil_append, List.find?_append]
    by_cases he : s = i
    · subst he
      simp [List.find?, hs]
    · have : (s == i) = false := by simpa using he
      simp [List.find?, he, this]
  · rw [List.getElem?_eq_none (by rw [views_length]; exact Nat.le_of_not_lt hi), if_neg (fun e => hi (by omega)), List.getElem?_eq_none (by rw [views_length]; exact Nat.le_of_not_lt hi)]

theorem fail_none (S : DS) (h : S.on) : S.fail 0 0 = { n := S.n, st := S.st, q := [], off := true, arm := none } := by
  unfold DS.fail
  rw [h.1]
  have h1 : (max (0 : Int) 0).toNat = 0 := rfl
  have h2 : (min (max (0 : Int) 0) 64).toNat = 0 := rfl
  simp only [h1, h2, Nat.zero_min, List.take_zero, settle]
  cases S.q[0]? with
  | none => simp
  | some p => simp [put]

/-! ### what is durable -/
theorem raw_size (S : DS) (hg : S.ok) : S.raw.size = S.n * 64 := hg.len
theorem write_raw (S : DS) (h : S.on) (s : Int) (t : ByteArray) : (S.write s t).2.raw = S.raw ∧ (S.write s t).2.on ∧ (S.write s t).2.n = S.n := by
  rcases write_on S h s t with ⟨_, e⟩ | ⟨_, e⟩ <;> rw [e]
  · exact ⟨rfl, h, rfl⟩
  · exact ⟨rfl, h, rfl⟩
theorem fail_raw (S : DS) (h : S.on) : (S.fail 0 0).raw = S.raw := by rw [fail_none S h]; rfl
theorem start_raw (S : DS) : S.start.raw = S.raw := rfl

def cat (l : List ByteArray) : ByteArray := l.foldl (· ++ ·) ByteArray.empty
theorem cat_snoc (l : List ByteArray) (k : Nat) (s : ByteArray) (h : l[k]? = some s) : cat (l.take (k + 1)) = cat (l.take k) ++ s := by
  have e : l.take (k + 1) = l.take k ++ [s] := by rw [List.take_add_one, h]; rfl
  unfold cat
  rw [e, List.foldl_append]
  rfl
theorem cat_sectors (st : List UInt8) (n : Nat) (h : st.length = n * 64) (k : Nat) (hk : k ≤ n) : cat (((List.range n).map (secB st)).take k) = ⟨(st.take (k * 64)).toArray⟩ := by
  induction k with
  | zero => simp [cat]; rfl
  | succ k ih =>
    rw [cat_snoc _ k (secB st k) (by simp [show k < n by omega]), ih (by omega)]
    apply ByteArray.ext
    rw [ByteArray.data_append]
    rw [Nat.succ_mul, List.take_add]
    simp [secB, secL]
theorem cat_size (l : List ByteArray) (m : Nat) (h : ∀ v ∈ l, v.size = m) (k : Nat) : (cat (l.take k)).size ≤ k * m := by
  induction k with
  | zero => simp [cat]
  | succ k ih =>
    by_cases hk : k < l.length
    · obtain ⟨s, hs⟩ := get_some l k hk
      have := h s (List.mem_of_getElem? hs)
      rw [cat_snoc l k s hs, ByteArray.size_append, this, Nat.succ_mul]
      omega
    · rw [List.take_of_length_le (by omega)] at ih ⊢
      rw [Nat.succ_mul]; omega
theorem views_size (S : DS) (hg : S.ok) (v : ByteArray) (hv : v ∈ S.views) : v.size = 64 := by
  obtain ⟨i, hi, rfl⟩ := List.mem_map.1 hv
  exact view_size S hg i (List.mem_range.1 hi)
theorem sync_raw (S : DS) (hg : S.ok) (h : S.on) : cat S.sync.2.views = S.sync.2.raw ∧ S.sync.2.on ∧ S.sync.2.n = S.n ∧ S.sync.1 = 0 := by
  rw [sync_on S h]
  refine ⟨?_, h, rfl, rfl⟩
  have hl : (settle S.st S.q).length = S.n * 64 := settle_len S.n S.q S.st hg.len hg.inq
  have := cat_sectors (settle S.st S.q) S.n hl S.n (Nat.le_refl _)
  rw [List.take_of_length_le (by simp), List.take_of_length_le (by omega)] at this
  exact this

end Go.Proofs.Ytdbmimmfpglahaa
