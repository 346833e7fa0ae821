/- Plain laws of the links between trees. -/
import Derived.Test.YtbefcipeojahfaaGreatDoorPureT02
namespace Go.Proofs.YtbefcipeojahfaaGreatDoor
open Go.RowKit

/-! ### links: m of the n first elements, 1 ≤ m ≤ n -/
def lk (l : List ByteArray) (m : Nat) (whole : Bool) : List ByteArray :=
  if _h : m < l.length ∧ 2 ≤ l.length then
    if m ≤ hf l.length then lk (l.take (hf l.length)) m whole ++ [rt (l.drop (hf l.length))] else lk (l.drop (hf l.length)) (m - hf l.length) false ++ [rt (l.take (hf l.length))]
  else if whole then [] else [rt l]
termination_by l.length
decreasing_by
  all_goals
    have h1 := hf_lt l.length _h.2
    have h2 := hf_pos l.length
    simp only [List.length_take, List.length_drop]; omega
theorem lk_end (l : List ByteArray) (m : Nat) (whole : Bool) (h : ¬ m < l.length) : lk l m whole = if whole then [] else [rt l] := by rw [lk, dif_neg (fun e => h e.1)]
theorem lk_le (l : List ByteArray) (m : Nat) (whole : Bool) (h1 : m < l.length) (h2 : 2 ≤ l.length) (h : m ≤ hf l.length) : lk l m whole = lk (l.take (hf l.length)) m whole ++ [rt (l.drop (hf l.length))] := by rw [lk, dif_pos ⟨h1, h2⟩, if_pos h]
theorem lk_gt (l : List ByteArray) (m : Nat) (whole : Bool) (h1 : m < l.length) (h2 : 2 ≤ l.length) (h : ¬ m ≤ hf l.length) : lk l m whole = lk (l.drop (hf l.length)) (m - hf l.length) false ++ [rt (l.take (hf l.length))] := by rw [lk, dif_pos ⟨h1, h2⟩, if_neg h]

def llen (n m : Nat) (whole : Bool) : Nat :=
  if _h : m < n ∧ 2 ≤ n then 1 + (if m ≤ hf n then llen (hf n) m whole else llen (n - hf n) (m - hf n) false) else if whole then 0 else 1
termination_by n
decreasing_by
  all_goals
    have h1 := hf_lt n _h.2
    have h2 := hf_pos n
    omega
theorem llen_end (n m : Nat) (whole : Bool) (h : ¬ m < n) : llen n m whole = if whole then 0 else 1 := by rw [llen, dif_neg (fun e => h e.1)]
theorem llen_le (n m : Nat) (whole : Bool) (h1 : m < n) (h2 : 2 ≤ n) (h : m ≤ hf n) : llen n m whole = 1 + llen (hf n) m whole := by rw [llen, dif_pos ⟨h1, h2⟩, if_pos h]
theorem llen_gt (n m : Nat) (whole : Bool) (h1 : m < n) (h2 : 2 ≤ n) (h : ¬ m ≤ hf n) : llen n m whole = 1 + llen (n - hf n) (m - hf n) false := by rw [llen, dif_pos ⟨h1, h2⟩, if_neg h]

def bothv (n m : Nat) (whole : Bool) (old : ByteArray) (p : List ByteArray) : ByteArray × ByteArray :=
  if _h : m < n ∧ 2 ≤ n then
    if m ≤ hf n then ((bothv (hf n) m whole old p.dropLast).1, nd (bothv (hf n) m whole old p.dropLast).2 (p.getLastD ByteArray.empty))
    else (nd (p.getLastD ByteArray.empty) (bothv (n - hf n) (m - hf n) false old p.dropLast).1, nd (p.getLastD ByteArray.empty) (bothv (n - hf n) (m - hf n) false old p.dropLast).2)
  else if whole then (old, old) else (p.getLastD ByteArray.empty, p.getLastD ByteArray.empty)
termination_by n
decreasing_by
  all_goals
    have h1 := hf_lt n _h.2
    have h2 := hf_pos n
    omega
theorem bothv_end (n m : Nat) (whole : Bool) (old : ByteArray) (p : List ByteArray) (h : ¬ m < n) : bothv n m whole old p = if whole then (old, old) else (p.getLastD ByteArray.empty, p.getLastD ByteArray.empty) := by rw [bothv, dif_neg (fun e => h e.1)]
theorem bothv_le (n m : Nat) (whole : Bool) (old : ByteArray) (p : List ByteArray) (h1 : m < n) (h2 : 2 ≤ n) (h : m ≤ hf n) :
    bothv n m whole old p = ((bothv (hf n) m whole old p.dropLast).1, nd (bothv (hf n) m whole old p.dropLast).2 (p.getLastD ByteArray.empty)) := by rw [bothv, dif_pos ⟨h1, h2⟩, if_pos h]
theorem bothv_gt (n m : Nat) (whole : Bool) (old : ByteArray) (p : List ByteArray) (h1 : m < n) (h2 : 2 ≤ n) (h : ¬ m ≤ hf n) :
    bothv n m whole old p = (nd (p.getLastD ByteArray.empty) (bothv (n - hf n) (m - hf n) false old p.dropLast).1, nd (p.getLastD ByteArray.empty) (bothv (n - hf n) (m - hf n) false old p.dropLast).2) := by rw [bothv, dif_pos ⟨h1, h2⟩, if_neg h]

def ltx (n m : Nat) (whole : Bool) (old : ByteArray) (p : List ByteArray) : List ByteArray :=
  if _h : m < n ∧ 2 ≤ n then
    if m ≤ hf n then ltx (hf n) m whole old p.dropLast ++ [jb [bNode, (bothv (hf n) m whole old p.dropLast).2, p.getLastD ByteArray.empty]]
    else ltx (n - hf n) (m - hf n) false old p.dropLast ++ [jb [bNode, p.getLastD ByteArray.empty, (bothv (n - hf n) (m - hf n) false old p.dropLast).1]] ++ [jb [bNode, p.getLastD ByteArray.empty, (bothv (n - hf n) (m - hf n) false old p.dropLast).2]]
  else []
termination_by n
decreasing_by
  all_goals
    have h1 := hf_lt n _h.2
    have h2 := hf_pos n
    omega
theorem ltx_end (n m : Nat) (whole : Bool) (old : ByteArray) (p : List ByteArray) (h : ¬ m < n) : ltx n m whole old p = [] := by rw [ltx, dif_neg (fun e => h e.1)]
theorem ltx_le (n m : Nat) (whole : Bool) (old : ByteArray) (p : List ByteArray) (h1 : m < n) (h2 : 2 ≤ n) (h : m ≤ hf n) :
    ltx n m whole old p = ltx (hf n) m whole old p.dropLast ++ [jb [bNode, (bothv (hf n) m whole old p.dropLast).2, p.getLastD ByteArray.empty]] := by rw [ltx, dif_pos ⟨h1, h2⟩, if_pos h]
theorem ltx_gt (n m : Nat) (whole : Bool) (old : ByteArray) (p : List ByteArray) (h1 : m < n) (h2 : 2 ≤ n) (h : ¬ m ≤ hf n) :
    ltx n m whole old p = ltx (n - hf n) (m - hf n) false old p.dropLast ++ [jb [bNode, p.getLastD ByteArray.empty, (bothv (n - hf n) (m - hf n) false old p.dropLast).1]] ++ [jb [bNode, p.getLastD ByteArray.empty, (bothv (n - hf n) (m - hf n) false old p.dropLast).2]] := by rw [ltx, dif_pos ⟨h1, h2⟩, if_neg h]

theorem lk_len (l : List ByteArray) (m : Nat) (whole : Bool) (hm : 1 ≤ m) : (lk l m whole).length = llen l.length m whole := by
  obtain ⟨n, hn⟩ : ∃ n, l.length = n := ⟨_, rfl⟩
  induction n using Nat.strongRecOn generalizing l m whole with
  | _ n ih =>
    by_cases h : m < l.length
    · have h2 : 2 ≤ l.length := by omega
      have k1 := hf_lt l.length h2
      have k2 := hf_pos l.length
      have e : (l.take (hf l.length)).length = hf l.length := by rw [List.length_take]; omega
      have e2 : (l.drop (hf l.length)).length = l.length - hf l.length := by rw [List.length_drop]
      by_cases hm2 : m ≤ hf l.length
      · rw [lk_le _ _ _ h h2 hm2, llen_le _ _ _ h h2 hm2, List.length_append, ih _ (by rw [e]; omega) _ m whole hm rfl, e, List.length_singleton]; omega
      · rw [lk_gt _ _ _ h h2 hm2, llen_gt _ _ _ h h2 hm2, List.length_append, ih _ (by rw [e2]; omega) _ _ false (by omega) rfl, e2, List.length_singleton]; omega
    · rw [lk_end _ _ _ h, llen_end _ _ _ h]
      cases whole <;> rfl

/-- The root of the first m, as the tree of all parts them. -/
theorem rt_gt (l : List ByteArray) (m : Nat) (hm : ¬ m ≤ hf l.length) (h : m ≤ l.length) : rt (l.take m) = nd (rt (l.take (hf l.length))) (rt ((l.drop (hf l.length)).take (m - hf l.length))) := by
  have k2 := hf_pos l.length
  have e : (l.take m).length = m := by rw [List.length_take]; omega
  have e2 : hf (l.take m).length = hf l.length := by rw [e]; exact hf_mid _ _ (by omega) h
  rw [rt_split (l.take m) (hf l.length) (by rw [e]; omega) e2, List.take_take, List.drop_take]
  congr 2
  congr 1
  omega
theorem rt_le (l : List ByteArray) (m : Nat) (hm : m ≤ hf l.length) : (l.take (hf l.length)).take m = l.take m := by
  rw [List.take_take]; congr 1; omega

theorem link_both (l : List ByteArray) (m : Nat) (whole : Bool) (old : ByteArray) (hm : 1 ≤ m) (hml : m ≤ l.length) (ho : whole = true → old = rt (l.take m)) : bothv l.length m whole old (lk l m whole) = (rt (l.take m), rt l) := by
  obtain ⟨n, hn⟩ : ∃ n, l.length = n := ⟨_, rfl⟩
  induction n using Nat.strongRecOn generalizing l m whole with
  | _ n ih =>
    by_cases h : m < l.length
    · have h2 : 2 ≤ l.length := by omega
      have k1 := hf_lt l.length h2
      have k2 := hf_pos l.length
      have e : (l.take (hf l.length)).length = hf l.length := by rw [List.length_take]; omega
      have e2 : (l.drop (hf l.length)).length = l.length - hf l.length := by rw [List.length_drop]
      by_cases hm2 : m ≤ hf l.length
      · have := ih _ (by rw [e]; omega) (l.take (hf l.length)) m whole hm (by omega) (by rw [rt_le l m hm2]; exact ho) rfl
        rw [e, rt_le l m hm2] at this
        rw [lk_le _ _ _ h h2 hm2, bothv_le _ _ _ _ _ h h2 hm2, List.dropLast_concat, List.getLastD_concat, this, ← rt_two l h2]
      · have := ih _ (by rw [e2]; omega) (l.drop (hf l.length)) (m - hf l.length) false (by omega) (by omega) (by simp) rfl
        rw [e2] at this
        rw [lk_gt _ _ _ h h2 hm2, bothv_gt _ _ _ _ _ h h2 hm2, List.dropLast_concat, List.getLastD_concat, this, ← rt_two l h2, ← rt_gt l m hm2 hml]
    · have e : l.take m = l := List.take_of_length_le (by omega)
      rw [lk_end _ _ _ h, bothv_end _ _ _ _ _ h, e]
      rw [e] at ho
      cases whole
      · rfl
      · rw [if_pos rfl, ho rfl]

theorem link_bind (l : List ByteArray) (m : Nat) (whole : Bool) (old x : ByteArray) (p : List ByteArray) (hm : 1 ≤ m) (hml : m ≤ l.length) (h : bothv l.length m whole old p = (x, rt l)) : x = rt (l.take m) ∨ Col (txt l ++ ltx l.length m whole old p) := by
  obtain ⟨n, hn⟩ : ∃ n, l.length = n := ⟨_, rfl⟩
  induction n using Nat.strongRecOn generalizing l m whole p x with
  | _ n ih =>
    by_cases hlt : m < l.length
    · have h2 : 2 ≤ l.length := by omega
      have k1 := hf_lt l.length h2
      have k2 := hf_pos l.length
      have e : (l.take (hf l.length)).length = hf l.length := by rw [List.length_take]; omega
      have e2 : (l.drop (hf l.length)).length = l.length - hf l.length := by rw [List.length_drop]
      rw [txt_two l h2]
      by_cases hm2 : m ≤ hf l.length
      · rw [bothv_le _ _ _ _ _ hlt h2 hm2, rt_two l h2, Prod.mk.injEq] at h
        rw [ltx_le _ _ _ _ _ hlt h2 hm2]
        rcases nd_bind _ _ _ _ _ h.2 (List.mem_append.2 (.inr (List.mem_append.2 (.inr List.mem_cons_self)))) (List.mem_append.2 (.inl (List.mem_append.2 (.inr List.mem_cons_self)))) with ⟨e1, _⟩ | hc
        · have := ih _ (by rw [e]; omega) (l.take (hf l.length)) m whole x p.dropLast hm (by omega) (by rw [e, ← e1, ← h.1]) rfl
          rw [rt_le l m hm2, e] at this
          rcases this with hh | hc
          · exact .inl hh
          · exact .inr (hc.mono (fun x hx => by simp only [List.mem_append] at hx ⊢; rcases hx with hx | hx <;> simp [hx]))
        · exact .inr hc
      · rw [bothv_gt _ _ _ _ _ hlt h2 hm2, rt_two l h2, Prod.mk.injEq] at h
        rw [ltx_gt _ _ _ _ _ hlt h2 hm2]
        rcases nd_bind _ _ _ _ _ h.2 (List.mem_append.2 (.inr (List.mem_append.2 (.inr List.mem_cons_self)))) (List.mem_append.2 (.inl (List.mem_append.2 (.inr List.mem_cons_self)))) with ⟨e0, e1⟩ | hc
        · have := ih _ (by rw [e2]; omega) (l.drop (hf l.length)) (m - hf l.length) false (bothv (l.length - hf l.length) (m - hf l.length) false old p.dropLast).1 p.dropLast (by omega) (by omega) (by rw [e2, ← e1]) rfl
          rw [e2] at this
          rcases this with hh | hc
          · left
            rw [← h.1, e0, hh, ← rt_gt l m hm2 hml]
          · exact .inr (hc.mono (fun x hx => by simp only [List.mem_append] at hx ⊢; rcases hx with hx | hx <;> simp [hx]))
        · exact .inr hc
    · have e : l.take m = l := List.take_of_length_le (by omega)
      rw [bothv_end _ _ _ _ _ hlt] at h
      rw [e]
      left
      cases whole
      · simp only [Bool.false_eq_true, if_false, Prod.mk.injEq] at h; rw [← h.1, h.2]
      · simp only [if_true, Prod.mk.injEq] at h; rw [← h.1, h.2]

/-! ### lengths -/
def bdig (n : Nat) : Nat := if n = 0 then 0 else 1 + bdig (n / 2)
theorem bdig_pos (n : Nat) (h : 0 < n) : bdig n = 1 + bdig (n / 2) := by rw [bdig, if_neg (by omega)]
theorem bdig_pow (n j : Nat) (h : 2 ^ j ≤ n) : j + 1 ≤ bdig n := by
  induction j generalizing n with
  | zero => rw [bdig_pos n (by simp at h; omega)]; omega
  | succ j ih =>
    have h0 : 0 < n := by have := Nat.one_le_two_pow (n := j + 1); omega
    rw [bdig_pos n h0]
    have := ih (n / 2) (by rw [Nat.pow_succ] at h; omega)
    omega
theorem hf_pow (n : Nat) : ∃ j, hf n = 2 ^ j := by
  unfold hf; split
  · exact ⟨0, rfl⟩
  · exact ⟨_, rfl⟩
/-- A tree of n ≤ 2^j elements has paths of at most j. -/
theorem plen_pow (j n i : Nat) (h : n ≤ 2 ^ j) : plen n i ≤ j := by
  induction j generalizing n i with
  | zero => rw [plen_one n i (by simp at h; omega)]; exact Nat.zero_le _
  | succ j ih =>
    by_cases h2 : 2 ≤ n
    · have k1 := hf_lt n h2
      have k2 := hf_le n
      obtain ⟨a, ha⟩ := hf_pow n
      rw [Nat.pow_succ] at h
      have h3 : hf n ≤ 2 ^ j := by
        rw [ha] at k1 ⊢
        apply Nat.pow_le_pow_right (by decide)
        have : 2 ^ a < 2 ^ (j + 1) := by rw [Nat.pow_succ]; omega
        have := (Nat.pow_lt_pow_iff_right (by decide : 1 < 2)).1 this
        omega
      by_cases hi : i < hf n
      · rw [plen_lt n i h2 hi]; have := ih (hf n) i h3; omega
      · rw [plen_ge n i h2 hi]; have := ih (n - hf n) (i - hf n) (by omega); omega
    · rw [plen_one n i h2]; exact Nat.zero_le _
theorem llen_pow (j n m : Nat) (w : Bool) (h : n ≤ 2 ^ j) (hm : 1 ≤ m) : llen n m w ≤ j + 1 := by
  induction j generalizing n m w with
  | zero =>
    rw [llen_end n m w (by simp at h; omega)]; split <;> omega
  | succ j ih =>
    by_cases hl : m < n
    · have h2 : 2 ≤ n := by omega
      have k1 := hf_lt n h2
      have k2 := hf_le n
      obtain ⟨a, ha⟩ := hf_pow n
      rw [Nat.pow_succ] at h
      have h3 : hf n ≤ 2 ^ j := by
        rw [ha] at k1 ⊢
        apply Nat.pow_le_pow_right (by decide)
        have : 2 ^ a < 2 ^ (j + 1) := by rw [Nat.pow_succ]; omega
        have := (Nat.pow_lt_pow_iff_right (by decide : 1 < 2)).1 this
        omega
      by_cases hi : m ≤ hf n
      · rw [llen_le n m w hl h2 hi]; have := ih (hf n) m w h3 hm; omega
      · rw [llen_gt n m w hl h2 hi]; have := ih (n - hf n) (m - hf n) false (by omega) (by omega); omega
    · rw [llen_end n m w hl]; split <;> omega
theorem le_bdig (n : Nat) (h : 1 ≤ n) : ∃ j, n ≤ 2 ^ j ∧ j ≤ bdig n := by
  induction n using Nat.strongRecOn with
  | _ n ih =>
    by_cases h1 : n = 1
    · exact ⟨0, by omega, Nat.zero_le _⟩
    · obtain ⟨j, h2, h3⟩ := ih (n / 2) (by omega) (by omega)
      by_cases he : n % 2 = 0
      · exact ⟨j + 1, by rw [Nat.pow_succ]; omega, by rw [bdig_pos n (by omega)]; omega⟩
      · rcases Nat.lt_or_ge (n / 2) (2 ^ j) with h4 | h4
        · exact ⟨j + 1, by rw [Nat.pow_succ]; omega, by rw [bdig_pos n (by omega)]; omega⟩
        · have h5 : n / 2 = 2 ^ j := by omega
          have h6 := bdig_pow (n / 2) j (by omega)
          exact ⟨j + 2, by rw [Nat.pow_succ, Nat.pow_succ]; omega, by rw [bdig_pos n (by omega)]; omega⟩
theorem plen_bdig (n i : Nat) (h : 1 ≤ n) : plen n i ≤ bdig n := by
  obtain ⟨j, h1, h2⟩ := le_bdig n h
  exact Nat.le_trans (plen_pow j n i h1) h2
theorem llen_bdig (n m : Nat) (w : Bool) (h : 1 ≤ n) (hm : 1 ≤ m) : llen n m w ≤ bdig n + 1 := by
  obtain ⟨j, h1, h2⟩ := le_bdig n h
  exact Nat.le_trans (llen_pow j n m w h1 hm) (by omega)
theorem plen_zero (n i : Nat) : plen n i = 0 ↔ ¬ 2 ≤ n := by
  constructor
  · intro h h2
    by_cases hi : i < hf n
    · rw [plen_lt n i h2 hi] at h; omega
    · rw [plen_ge n i h2 hi] at h; omega
  · exact plen_one n i
theorem llen_zero (n m : Nat) (hm : 1 ≤ m) : llen n m true = 0 ↔ ¬ m < n := by
  constructor
  · intro h h2
    have h3 : 2 ≤ n := by omega
    by_cases hi : m ≤ hf n
    · rw [llen_le n m true h2 h3 hi] at h; omega
    · rw [llen_gt n m true h2 h3 hi] at h; omega
  · intro h; rw [llen_end n m true h]; rfl

end Go.Proofs.YtbefcipeojahfaaGreatDoor
