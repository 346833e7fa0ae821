/- A disk that is armed beside one that is not: pure laws. -/
import Derived.Test.YtomcjohdenjljaaLB255
namespace Go.Proofs.Ytomcjohdenjljaa
open Go.RowKit

theorem fail_arm (S : DS) (h : S.off = false) (x : Option (Int × Int × Int)) (a b : Int) : ({ S with arm := x } : DS).fail a b = S.fail a b := by
  unfold DS.fail
  simp [h]

theorem setArm_on (S : DS) (h : S.on) (left a b : Int) : S.setArm left a b = { S with arm := if 0 ≤ left then some (left, a, b) else none } := by
  unfold DS.setArm
  rw [h.1]
  rfl
theorem setArm_neg (S : DS) (h : S.on) (left a b : Int) (hl : left < 0) : S.setArm left a b = S := by
  rw [setArm_on S h, if_neg (by omega)]
  have := h.2
  cases S
  simp only at this
  rw [this]

/-- The armed disk's count. -/
theorem count_armed (S : DS) (h : S.on) (left a b : Int) (hl : 0 ≤ left) : (S.setArm left a b).count = if left = 0 then (28, S.fail a b) else (0, S.setArm (left - 1) a b) := by
  rw [setArm_on S h, if_pos hl]
  unfold DS.count
  by_cases h0 : left = 0
  · subst h0
    simp only [Int.lt_irrefl, if_false, if_true]
    rw [fail_arm S h.1]
  · rw [if_neg h0]
    have h1 : 0 < left := by omega
    simp only [h1, if_true]
    rw [setArm_on S h, if_pos (by omega)]

theorem write_ok (T : DS) (hoff : T.off = false) (s : Int) (t : ByteArray) (h1 : 0 ≤ s ∧ s < T.n) (h2 : t.size = 64) : T.write s t = ({ T with q := T.q ++ [(s.toNat, t)] } : DS).count := by
  unfold DS.write DS.errAt
  rw [hoff]
  simp [h1, h2]

theorem arm_write (S S' : DS) (h : S.on) (left a b s : Int) (t : ByteArray) (cv : Int) (e : S.write s t = (cv, S')) :
    (cv = 1 ∧ S' = S ∧ (S.setArm left a b).write s t = (1, S.setArm left a b)) ∨
    (cv = 0 ∧ S'.on ∧ S'.n = S.n ∧ S'.q.length ≤ S.q.length + 1 ∧ (left = 0 → (S.setArm left a b).write s t = (28, S'.fail a b)) ∧ (0 < left → (S.setArm left a b).write s t = (0, S'.setArm (left - 1) a b)) ∧ (left < 0 → (S.setArm left a b).write s t = (0, S'.setArm left a b))) := by
  have hoff : (S.setArm left a b).off = false := by rw [setArm_on S h]; exact h.1
  have hn : (S.setArm left a b).n = S.n := setArm_n _ _ _ _
  rcases write_on S h s t with ⟨h1, h2⟩ | ⟨h1, h2⟩
  · right
    rw [e] at h2
    simp only [Prod.mk.injEq] at h2
    obtain ⟨rfl, h4⟩ := h2
    have hS' : S'.on := by rw [h4]; exact ⟨h.1, h.2⟩
    have hw : (S.setArm left a b).write s t = (S'.setArm left a b).count := by
      rw [write_ok _ hoff s t (by rw [hn]; exact ⟨h1.1, h1.2.1⟩) h1.2.2]
      congr 1
      rw [setArm_on S' hS', setArm_on S h, h4]
    refine ⟨rfl, hS', by rw [h4], by rw [h4]; simp, fun hl => ?_, fun hl => ?_, fun hl => ?_⟩
    · rw [hw, count_armed S' hS' left a b (by omega), if_pos hl]
    · rw [hw, count_armed S' hS' left a b (by omega), if_neg (show ¬ left = 0 by omega)]
    · rw [setArm_neg S h _ _ _ hl, setArm_neg S' hS' _ _ _ hl, e]
  · left
    rw [e] at h2
    simp only [Prod.mk.injEq] at h2
    obtain ⟨rfl, rfl⟩ := h2
    refine ⟨rfl, rfl, ?_⟩
    unfold DS.write DS.errAt
    rw [hoff, hn]
    by_cases h3 : 0 ≤ s ∧ s < (S'.n : Int)
    · have h4 : ¬ t.size = 64 := fun h5 => h1 ⟨h3.1, h3.2, h5⟩
      simp [h3, h4]
    · simp [h3]

theorem arm_sync (S : DS) (h : S.on) (left a b : Int) :
    S.sync.1 = 0 ∧ S.sync.2.on ∧ S.sync.2.n = S.n ∧ S.sync.2.q.length ≤ S.q.length ∧ (left = 0 → (S.setArm left a b).sync = (28, S.fail a b)) ∧ (0 < left → (S.setArm left a b).sync = (0, S.sync.2.setArm (left - 1) a b)) ∧ (left < 0 → (S.setArm left a b).sync = (0, S.sync.2.setArm left a b)) := by
  have hs := sync_on S h
  have hoff : (S.setArm left a b).off = false := by rw [setArm_on S h]; exact h.1
  have hon : S.sync.2.on := by rw [hs]; exact h
  refine ⟨by rw [hs], hon, by rw [hs], by rw [hs]; simp, fun hl => ?_, fun hl => ?_, fun hl => ?_⟩
  · unfold DS.sync
    rw [hoff, count_armed S h left a b (by omega), if_pos hl]
    simp
  · rw [hs]
    unfold DS.sync
    rw [hoff, count_armed S h left a b (by omega), if_neg (show ¬ left = 0 by omega)]
    simp only [Bool.false_eq_true, if_false, ne_eq, not_true_eq_false]
    rw [setArm_on S h, setArm_on { S with st := settle S.st S.q, q := [] } ⟨h.1, h.2⟩]
  · rw [setArm_neg S h _ _ _ hl, setArm_neg _ hon _ _ _ hl, hs]

structure ArmInv (n k : Nat) (after left : Int) (S : DS) : Prop where
  on : S.on
  n_ : S.n = n
  few : S.q.length ≤ 60 + k
  neg : after < 0 → left = after
  pos : 0 ≤ after → 0 ≤ left ∧ left ≤ after

/-- What the disks look like behind the loop. -/
theorem arm_start (S : DS) (h : S.on) (left a b : Int) : (S.setArm left a b).start.views = S.start.views ∧ (S.setArm left a b).start.n = S.n ∧ (S.setArm left a b).start.off = false := by
  rw [setArm_on S h]
  exact ⟨rfl, rfl, rfl⟩

end Go.Proofs.Ytomcjohdenjljaa
