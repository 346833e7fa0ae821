/- Plain laws of the trees of layer 2. Plain laws of the links between trees. What a row's listed tables give a walk. Plain: the string of a share; what SharesCommit says of the strings that were digested. A region that draws its order, whose operations read blocks of the world and whose callees only make new memory: one walk in the order of the text. Layer 2: half, node, Leaf, total. Layer 2: total, proper, Root. Layer 2: pop, next, done; Check. Layer 2: Check's closure. Layer 2: Clone, Check. The reference of the digest: mix, Sum, Chain. The reference of the digest: digits, Decimal, Same. The reference of the digest: Joined, List. -/
import Derived.Test.YtjfondfjdhjooaaGreatDoorCbA
import Derived.Test.YtjfondfjdhjooaaGreatDoorRows
import Derived.ProofKit
import Derived.LaidMore
import Derived.Deep.QuietTactic
import Derived.Laws.EntriesVeiled
import Derived.StillTailTactics
import Derived.Lib.BufferRead
namespace Go.Proofs.YtjfondfjdhjooaaGreatDoor
set_option linter.unusedVariables false
set_option linter.unusedSimpArgs false

section
open Go.RowKit

def bNode : ByteArray := ⟨#[110, 111, 100, 101]⟩
def bLeaf : ByteArray := ⟨#[108, 101, 97, 102]⟩
def bEmpty : ByteArray := ⟨#[101, 109, 112, 116, 121]⟩
/-- The joined text of a list. -/
def jb (l : List ByteArray) : ByteArray := ⟨(jn l).toArray⟩
def nd (a b : ByteArray) : ByteArray := dg (jb [bNode, a, b])
def lf (s : ByteArray) : ByteArray := dg (jb [bLeaf, s])
def em : ByteArray := dg (jb [bEmpty])

/-! ### half -/
def hf (n : Nat) : Nat := if n ≤ 1 then 1 else 2 ^ Nat.log2 (n - 1)
theorem hf_pos (n : Nat) : 1 ≤ hf n := by
  unfold hf; split
  · exact Nat.le_refl _
  · exact Nat.one_le_two_pow
theorem hf_lt (n : Nat) (h : 2 ≤ n) : hf n < n := by
  unfold hf
  rw [if_neg (by omega)]
  have := Nat.log2_self_le (n := n - 1) (by omega)
  omega
theorem hf_le (n : Nat) : n ≤ 2 * hf n := by
  unfold hf
  split
  · omega
  · have := Nat.lt_log2_self (n := n - 1)
    rw [Nat.pow_succ] at this
    omega
theorem hf_eq (n j : Nat) (h1 : 2 ^ j < n ∨ j = 0) (h2 : n ≤ 2 * 2 ^ j) : hf n = 2 ^ j := by
  unfold hf
  split
  · rcases h1 with h1 | rfl
    · have := Nat.one_le_two_pow (n := j); omega
    · rfl
  · rename_i hn
    congr 1
    apply (Nat.log2_eq_iff (by omega)).2
    rw [Nat.pow_succ]
    rcases h1 with h1 | rfl
    · omega
    · simp at h2 ⊢; omega
theorem hf_mid (n m : Nat) (h1 : hf n < m) (h2 : m ≤ n) : hf m = hf n := by
  have h3 := hf_le n
  have h4 : ∃ j, hf n = 2 ^ j := by
    unfold hf; split
    · exact ⟨0, rfl⟩
    · exact ⟨_, rfl⟩
  obtain ⟨j, hj⟩ := h4
  rw [hj] at h1 h3 ⊢
  exact hf_eq m j (.inl h1) (by omega)

/-! ### the root -/
def rt (l : List ByteArray) : ByteArray :=
  if _h : 2 ≤ l.length then nd (rt (l.take (hf l.length))) (rt (l.drop (hf l.length))) else l.headD em
termination_by l.length
decreasing_by
  all_goals
    have h1 := hf_lt l.length _h
    have h2 := hf_pos l.length
    simp only [List.length_take, List.length_drop]; omega
theorem rt_two (l : List ByteArray) (h : 2 ≤ l.length) : rt l = nd (rt (l.take (hf l.length))) (rt (l.drop (hf l.length))) := by rw [rt, dif_pos h]
theorem rt_one (x : ByteArray) : rt [x] = x := by rw [rt, dif_neg (by simp)]; rfl
theorem rt_nil : rt [] = em := by rw [rt, dif_neg (by simp)]; rfl
theorem rt_split (l : List ByteArray) (k : Nat) (h : 2 ≤ l.length) (hk : hf l.length = k) : rt l = nd (rt (l.take k)) (rt (l.drop k)) := by rw [rt_two l h, hk]

def allD (l : List ByteArray) : Bool := l.all isD
theorem allD_take {l : List ByteArray} (h : allD l = true) (k : Nat) : allD (l.take k) = true := by
  simp only [allD, List.all_eq_true] at h ⊢
  exact fun x hx => h x (List.mem_of_mem_take hx)
theorem allD_drop {l : List ByteArray} (h : allD l = true) (k : Nat) : allD (l.drop k) = true := by
  simp only [allD, List.all_eq_true] at h ⊢
  exact fun x hx => h x (List.mem_of_mem_drop hx)
theorem isD_nd (a b : ByteArray) : isD (nd a b) = true := isD_dg _
theorem isD_em : isD em = true := isD_dg _
theorem isD_rt (l : List ByteArray) (h : allD l = true) : isD (rt l) = true := by
  by_cases h2 : 2 ≤ l.length
  · rw [rt_two l h2]; exact isD_nd _ _
  · match l, h2 with
    | [], _ => rw [rt_nil]; exact isD_em
    | [x], _ => rw [rt_one]; simpa [allD] using h
    | x :: y :: l, h2 => simp at h2
theorem isD_16 {s : ByteArray} (h : isD s = true) : s.size = 16 := by
  rcases Nat.decEq s.size 16 with h2 | h2
  · exfalso
    simp [isD, h2] at h
  · exact h2

/-! ### the strings that are digested -/
def Col (T : List ByteArray) : Prop := ∃ x ∈ T, ∃ y ∈ T, x ≠ y ∧ dg x = dg y
theorem Col.mono {T U : List ByteArray} (h : Col T) (hs : ∀ x, x ∈ T → x ∈ U) : Col U := by
  obtain ⟨x, hx, y, hy, h⟩ := h
  exact ⟨x, hs x hx, y, hs y hy, h⟩
def txt (l : List ByteArray) : List ByteArray :=
  if _h : 2 ≤ l.length then txt (l.take (hf l.length)) ++ txt (l.drop (hf l.length)) ++ [jb [bNode, rt (l.take (hf l.length)), rt (l.drop (hf l.length))]]
  else if l.length = 0 then [jb [bEmpty]] else []
termination_by l.length
decreasing_by
  all_goals
    have h1 := hf_lt l.length _h
    have h2 := hf_pos l.length
    simp only [List.length_take, List.length_drop]; omega
theorem txt_two (l : List ByteArray) (h : 2 ≤ l.length) : txt l = txt (l.take (hf l.length)) ++ txt (l.drop (hf l.length)) ++ [jb [bNode, rt (l.take (hf l.length)), rt (l.drop (hf l.length))]] := by rw [txt, dif_pos h]
theorem txt_one (x : ByteArray) : txt [x] = [] := by rw [txt, dif_neg (by simp), if_neg (by simp)]
theorem txt_nil : txt [] = [jb [bEmpty]] := by rw [txt, dif_neg (by simp), if_pos (by simp)]

theorem jb_inj {l m : List ByteArray} (h : jb l = jb m) : l = m := (jn_ba l m).1 h
/-- Two nodes with one digest: their parts are equal, or their strings collide. -/
theorem nd_bind (a b c d : ByteArray) (T : List ByteArray) (h : nd a b = nd c d) (h1 : jb [bNode, a, b] ∈ T) (h2 : jb [bNode, c, d] ∈ T) : (a = c ∧ b = d) ∨ Col T := by
  by_cases e : jb [bNode, a, b] = jb [bNode, c, d]
  · have := jb_inj e
    simp only [List.cons.injEq, and_true, true_and] at this
    exact .inl this
  · exact .inr ⟨_, h1, _, h2, e, h⟩

theorem roots_bind (a b : List ByteArray) (hl : a.length = b.length) (h : rt a = rt b) : a = b ∨ Col (txt a ++ txt b) := by
  obtain ⟨n, hn⟩ : ∃ n, a.length = n := ⟨_, rfl⟩
  induction n using Nat.strongRecOn generalizing a b with
  | _ n ih =>
    by_cases h2 : 2 ≤ a.length
    · have hb2 : 2 ≤ b.length := by omega
      obtain ⟨k, hk⟩ : ∃ k, hf a.length = k := ⟨_, rfl⟩
      have hkb : hf b.length = k := by rw [← hl]; exact hk
      have k1 := hf_lt a.length h2
      have k2 := hf_pos a.length
      rw [rt_two a h2, rt_two b hb2, hk, hkb] at h
      rw [txt_two a h2, txt_two b hb2, hk, hkb]
      rcases nd_bind _ _ _ _ _ h (List.mem_append.2 (.inl (List.mem_append.2 (.inr List.mem_cons_self)))) (List.mem_append.2 (.inr (List.mem_append.2 (.inr List.mem_cons_self)))) with ⟨e1, e2⟩ | hc
      · rcases ih (a.take k).length (by rw [List.length_take]; omega) (a.take k) (b.take k) (by rw [List.length_take, List.length_take]; omega) e1 rfl with f1 | hc
        · rcases ih (a.drop k).length (by rw [List.length_drop]; omega) (a.drop k) (b.drop k) (by rw [List.length_drop, List.length_drop]; omega) e2 rfl with f2 | hc
          · left
            rw [← List.take_append_drop k a, f1, f2, List.take_append_drop]
          · right
            exact hc.mono (fun x hx => by simp only [List.mem_append] at hx ⊢; rcases hx with hx | hx <;> simp [hx])
        · right
          exact hc.mono (fun x hx => by simp only [List.mem_append] at hx ⊢; rcases hx with hx | hx <;> simp [hx])
      · exact .inr hc
    · match a, b, hl, h2, h with
      | [], [], _, _, _ => exact .inl rfl
      | [x], [y], _, _, h => rw [rt_one, rt_one] at h; exact .inl (by rw [h])
      | x :: y :: l, _, _, h2, _ => simp at h2
      | [], y :: m, hl, _, _ => simp at hl
      | [x], y :: z :: m, hl, _, _ => simp at hl
      | [x], [], hl, _, _ => simp at hl

/-! ### paths -/
def pt (l : List ByteArray) (i : Nat) : List ByteArray :=
  if _h : 2 ≤ l.length then
    if i < hf l.length then pt (l.take (hf l.length)) i ++ [rt (l.drop (hf l.length))] else pt (l.drop (hf l.length)) (i - hf l.length) ++ [rt (l.take (hf l.length))]
  else []
termination_by l.length
decreasing_by
  all_goals
    have h1 := hf_lt l.length _h
    have h2 := hf_pos l.length
    simp only [List.length_take, List.length_drop]; omega
theorem pt_lt (l : List ByteArray) (i : Nat) (h : 2 ≤ l.length) (hi : i < hf l.length) : pt l i = pt (l.take (hf l.length)) i ++ [rt (l.drop (hf l.length))] := by rw [pt, dif_pos h, if_pos hi]
theorem pt_ge (l : List ByteArray) (i : Nat) (h : 2 ≤ l.length) (hi : ¬ i < hf l.length) : pt l i = pt (l.drop (hf l.length)) (i - hf l.length) ++ [rt (l.take (hf l.length))] := by rw [pt, dif_pos h, if_neg hi]
theorem pt_one (l : List ByteArray) (i : Nat) (h : ¬ 2 ≤ l.length) : pt l i = [] := by rw [pt, dif_neg h]

def plen (n i : Nat) : Nat := if _h : 2 ≤ n then 1 + (if i < hf n then plen (hf n) i else plen (n - hf n) (i - hf n)) else 0
termination_by n
decreasing_by
  all_goals
    have h1 := hf_lt n _h
    have h2 := hf_pos n
    omega
theorem plen_lt (n i : Nat) (h : 2 ≤ n) (hi : i < hf n) : plen n i = 1 + plen (hf n) i := by rw [plen, dif_pos h, if_pos hi]
theorem plen_ge (n i : Nat) (h : 2 ≤ n) (hi : ¬ i < hf n) : plen n i = 1 + plen (n - hf n) (i - hf n) := by rw [plen, dif_pos h, if_neg hi]
theorem plen_one (n i : Nat) (h : ¬ 2 ≤ n) : plen n i = 0 := by rw [plen, dif_neg h]

def upv (n i : Nat) (s : ByteArray) (p : List ByteArray) : ByteArray :=
  if _h : 2 ≤ n then
    if i < hf n then nd (upv (hf n) i s p.dropLast) (p.getLastD ByteArray.empty) else nd (p.getLastD ByteArray.empty) (upv (n - hf n) (i - hf n) s p.dropLast)
  else s
termination_by n
decreasing_by
  all_goals
    have h1 := hf_lt n _h
    have h2 := hf_pos n
    omega
theorem upv_lt (n i : Nat) (s : ByteArray) (p : List ByteArray) (h : 2 ≤ n) (hi : i < hf n) : upv n i s p = nd (upv (hf n) i s p.dropLast) (p.getLastD ByteArray.empty) := by rw [upv, dif_pos h, if_pos hi]
theorem upv_ge (n i : Nat) (s : ByteArray) (p : List ByteArray) (h : 2 ≤ n) (hi : ¬ i < hf n) : upv n i s p = nd (p.getLastD ByteArray.empty) (upv (n - hf n) (i - hf n) s p.dropLast) := by rw [upv, dif_pos h, if_neg hi]
theorem upv_one (n i : Nat) (s : ByteArray) (p : List ByteArray) (h : ¬ 2 ≤ n) : upv n i s p = s := by rw [upv, dif_neg h]

def ptx (n i : Nat) (s : ByteArray) (p : List ByteArray) : List ByteArray :=
  if _h : 2 ≤ n then
    if i < hf n then ptx (hf n) i s p.dropLast ++ [jb [bNode, upv (hf n) i s p.dropLast, p.getLastD ByteArray.empty]]
    else ptx (n - hf n) (i - hf n) s p.dropLast ++ [jb [bNode, p.getLastD ByteArray.empty, upv (n - hf n) (i - hf n) s p.dropLast]]
  else []
termination_by n
decreasing_by
  all_goals
    have h1 := hf_lt n _h
    have h2 := hf_pos n
    omega
theorem ptx_lt (n i : Nat) (s : ByteArray) (p : List ByteArray) (h : 2 ≤ n) (hi : i < hf n) : ptx n i s p = ptx (hf n) i s p.dropLast ++ [jb [bNode, upv (hf n) i s p.dropLast, p.getLastD ByteArray.empty]] := by rw [ptx, dif_pos h, if_pos hi]
theorem ptx_ge (n i : Nat) (s : ByteArray) (p : List ByteArray) (h : 2 ≤ n) (hi : ¬ i < hf n) : ptx n i s p = ptx (n - hf n) (i - hf n) s p.dropLast ++ [jb [bNode, p.getLastD ByteArray.empty, upv (n - hf n) (i - hf n) s p.dropLast]] := by rw [ptx, dif_pos h, if_neg hi]
theorem ptx_one (n i : Nat) (s : ByteArray) (p : List ByteArray) (h : ¬ 2 ≤ n) : ptx n i s p = [] := by rw [ptx, dif_neg h]

theorem pt_len (l : List ByteArray) (i : Nat) : (pt l i).length = plen l.length i := by
  obtain ⟨n, hn⟩ : ∃ n, l.length = n := ⟨_, rfl⟩
  induction n using Nat.strongRecOn generalizing l i with
  | _ n ih =>
    by_cases h : 2 ≤ l.length
    · have k1 := hf_lt l.length h
      have k2 := hf_pos l.length
      by_cases hi : i < hf l.length
      · have e : (l.take (hf l.length)).length = hf l.length := by rw [List.length_take]; omega
        rw [pt_lt l i h hi, plen_lt _ i h hi, List.length_append, ih _ (by rw [e]; omega) _ i rfl, e, List.length_singleton]; omega
      · have e : (l.drop (hf l.length)).length = l.length - hf l.length := by rw [List.length_drop]
        rw [pt_ge l i h hi, plen_ge _ i h hi, List.length_append, ih _ (by rw [e]; omega) _ _ rfl, e, List.length_singleton]; omega
    · rw [pt_one l i h, plen_one _ i h]; rfl
theorem pt_up (l : List ByteArray) (i : Nat) (s : ByteArray) (hs : l[i]? = some s) : upv l.length i s (pt l i) = rt l := by
  obtain ⟨n, hn⟩ : ∃ n, l.length = n := ⟨_, rfl⟩
  induction n using Nat.strongRecOn generalizing l i with
  | _ n ih =>
    by_cases h : 2 ≤ l.length
    · have k1 := hf_lt l.length h
      have k2 := hf_pos l.length
      rw [rt_two l h]
      by_cases hi : i < hf l.length
      · have e : (l.take (hf l.length)).length = hf l.length := by rw [List.length_take]; omega
        have := ih _ (by rw [e]; omega) (l.take (hf l.length)) i (by rw [List.getElem?_take, if_pos hi, hs]) rfl
        rw [e] at this
        rw [upv_lt _ _ _ _ h hi, pt_lt l i h hi, List.dropLast_concat, List.getLastD_concat, this]
      · have e : (l.drop (hf l.length)).length = l.length - hf l.length := by rw [List.length_drop]
        have := ih _ (by rw [e]; omega) (l.drop (hf l.length)) (i - hf l.length) (by rw [List.getElem?_drop, ← hs]; congr 1; omega) rfl
        rw [e] at this
        rw [upv_ge _ _ _ _ h hi, pt_ge l i h hi, List.dropLast_concat, List.getLastD_concat, this]
    · rw [upv_one _ _ _ _ h]
      match l, h, i, hs with
      | [], _, i, hs => simp at hs
      | [x], _, 0, hs => rw [rt_one]; simpa using hs.symm
      | [x], _, i + 1, hs => simp at hs
      | x :: y :: l, h, _, _ => simp at h
theorem path_bind (l : List ByteArray) (i : Nat) (s t : ByteArray) (p : List ByteArray) (ht : l[i]? = some t) (h : upv l.length i s p = rt l) : s = t ∨ Col (txt l ++ ptx l.length i s p) := by
  obtain ⟨n, hn⟩ : ∃ n, l.length = n := ⟨_, rfl⟩
  induction n using Nat.strongRecOn generalizing l i p with
  | _ n ih =>
    by_cases h2 : 2 ≤ l.length
    · have k1 := hf_lt l.length h2
      have k2 := hf_pos l.length
      rw [rt_two l h2] at h
      rw [txt_two l h2]
      by_cases hi : i < hf l.length
      · have e : (l.take (hf l.length)).length = hf l.length := by rw [List.length_take]; omega
        rw [upv_lt _ _ _ _ h2 hi] at h
        rw [ptx_lt _ _ _ _ h2 hi]
        rcases nd_bind _ _ _ _ _ h (List.mem_append.2 (.inr (List.mem_append.2 (.inr List.mem_cons_self)))) (List.mem_append.2 (.inl (List.mem_append.2 (.inr List.mem_cons_self)))) with ⟨e1, _⟩ | hc
        · rcases ih _ (by rw [e]; omega) (l.take (hf l.length)) i p.dropLast (by rw [List.getElem?_take, if_pos hi, ht]) (by rw [e]; exact e1) rfl with hh | hc
          · exact .inl hh
          · right
            rw [e] at hc
            exact hc.mono (fun x hx => by simp only [List.mem_append] at hx ⊢; rcases hx with hx | hx <;> simp [hx])
        · exact .inr hc
      · have e : (l.drop (hf l.length)).length = l.length - hf l.length := by rw [List.length_drop]
        rw [upv_ge _ _ _ _ h2 hi] at h
        rw [ptx_ge _ _ _ _ h2 hi]
        rcases nd_bind _ _ _ _ _ h (List.mem_append.2 (.inr (List.mem_append.2 (.inr List.mem_cons_self)))) (List.mem_append.2 (.inl (List.mem_append.2 (.inr List.mem_cons_self)))) with ⟨_, e1⟩ | hc
        · rcases ih _ (by rw [e]; omega) (l.drop (hf l.length)) (i - hf l.length) p.dropLast (by rw [List.getElem?_drop, ← ht]; congr 1; omega) (by rw [e]; exact e1) rfl with hh | hc
          · exact .inl hh
          · right
            rw [e] at hc
            exact hc.mono (fun x hx => by simp only [List.mem_append] at hx ⊢; rcases hx with hx | hx <;> simp [hx])
        · exact .inr hc
    · rw [upv_one _ _ _ _ h2] at h
      left
      match l, h2, i, ht, h with
      | [], _, i, hs, _ => simp at hs
      | [x], _, 0, hs, h => rw [rt_one] at h; rw [h]; simpa using hs
      | [x], _, i + 1, hs, _ => simp at hs
      | x :: y :: l, h2, _, _, _ => simp at h2
end

section
open Go.RowKit

/-! ### links: m of the n first elements, 1 ≤ m ≤ n -/
def lk (l : List ByteArray) (m : Nat) (whole : Bool) : List ByteArray :=
  if _h : m < l.length ∧ 2 ≤ l.length then
    if m ≤ hf l.length then lk (l.take (hf l.length)) m whole ++ [rt (l.drop (hf l.length))] else lk (l.drop (hf l.length)) (m - hf l.length) false ++ [rt (l.take (hf l.length))]
  else if whole then [] else [rt l]
termination_by l.length
decreasing_by
  all_goals
    have h1 := hf_lt l.length _h.2
    have h2 := hf_pos l.length
    simp only [List.length_take, List.length_drop]; omega
theorem lk_end (l : List ByteArray) (m : Nat) (whole : Bool) (h : ¬ m < l.length) : lk l m whole = if whole then [] else [rt l] := by rw [lk, dif_neg (fun e => h e.1)]
theorem lk_le (l : List ByteArray) (m : Nat) (whole : Bool) (h1 : m < l.length) (h2 : 2 ≤ l.length) (h : m ≤ hf l.length) : lk l m whole = lk (l.take (hf l.length)) m whole ++ [rt (l.drop (hf l.length))] := by rw [lk, dif_pos ⟨h1, h2⟩, if_pos h]
theorem lk_gt (l : List ByteArray) (m : Nat) (whole : Bool) (h1 : m < l.length) (h2 : 2 ≤ l.length) (h : ¬ m ≤ hf l.length) : lk l m whole = lk (l.drop (hf l.length)) (m - hf l.length) false ++ [rt (l.take (hf l.length))] := by rw [lk, dif_pos ⟨h1, h2⟩, if_neg h]

def llen (n m : Nat) (whole : Bool) : Nat :=
  if _h : m < n ∧ 2 ≤ n then 1 + (if m ≤ hf n then llen (hf n) m whole else llen (n - hf n) (m - hf n) false) else if whole then 0 else 1
termination_by n
decreasing_by
  all_goals
    have h1 := hf_lt n _h.2
    have h2 := hf_pos n
    omega
theorem llen_end (n m : Nat) (whole : Bool) (h : ¬ m < n) : llen n m whole = if whole then 0 else 1 := by rw [llen, dif_neg (fun e => h e.1)]
theorem llen_le (n m : Nat) (whole : Bool) (h1 : m < n) (h2 : 2 ≤ n) (h : m ≤ hf n) : llen n m whole = 1 + llen (hf n) m whole := by rw [llen, dif_pos ⟨h1, h2⟩, if_pos h]
theorem llen_gt (n m : Nat) (whole : Bool) (h1 : m < n) (h2 : 2 ≤ n) (h : ¬ m ≤ hf n) : llen n m whole = 1 + llen (n - hf n) (m - hf n) false := by rw [llen, dif_pos ⟨h1, h2⟩, if_neg h]

def bothv (n m : Nat) (whole : Bool) (old : ByteArray) (p : List ByteArray) : ByteArray × ByteArray :=
  if _h : m < n ∧ 2 ≤ n then
    if m ≤ hf n then ((bothv (hf n) m whole old p.dropLast).1, nd (bothv (hf n) m whole old p.dropLast).2 (p.getLastD ByteArray.empty))
    else (nd (p.getLastD ByteArray.empty) (bothv (n - hf n) (m - hf n) false old p.dropLast).1, nd (p.getLastD ByteArray.empty) (bothv (n - hf n) (m - hf n) false old p.dropLast).2)
  else if whole then (old, old) else (p.getLastD ByteArray.empty, p.getLastD ByteArray.empty)
termination_by n
decreasing_by
  all_goals
    have h1 := hf_lt n _h.2
    have h2 := hf_pos n
    omega
theorem bothv_end (n m : Nat) (whole : Bool) (old : ByteArray) (p : List ByteArray) (h : ¬ m < n) : bothv n m whole old p = if whole then (old, old) else (p.getLastD ByteArray.empty, p.getLastD ByteArray.empty) := by rw [bothv, dif_neg (fun e => h e.1)]
theorem bothv_le (n m : Nat) (whole : Bool) (old : ByteArray) (p : List ByteArray) (h1 : m < n) (h2 : 2 ≤ n) (h : m ≤ hf n) :
    bothv n m whole old p = ((bothv (hf n) m whole old p.dropLast).1, nd (bothv (hf n) m whole old p.dropLast).2 (p.getLastD ByteArray.empty)) := by rw [bothv, dif_pos ⟨h1, h2⟩, if_pos h]
theorem bothv_gt (n m : Nat) (whole : Bool) (old : ByteArray) (p : List ByteArray) (h1 : m < n) (h2 : 2 ≤ n) (h : ¬ m ≤ hf n) :
    bothv n m whole old p = (nd (p.getLastD ByteArray.empty) (bothv (n - hf n) (m - hf n) false old p.dropLast).1, nd (p.getLastD ByteArray.empty) (bothv (n - hf n) (m - hf n) false old p.dropLast).2) := by rw [bothv, dif_pos ⟨h1, h2⟩, if_neg h]

def ltx (n m : Nat) (whole : Bool) (old : ByteArray) (p : List ByteArray) : List ByteArray :=
  if _h : m < n ∧ 2 ≤ n then
    if m ≤ hf n then ltx (hf n) m whole old p.dropLast ++ [jb [bNode, (bothv (hf n) m whole old p.dropLast).2, p.getLastD ByteArray.empty]]
    else ltx (n - hf n) (m - hf n) false old p.dropLast ++ [jb [bNode, p.getLastD ByteArray.empty, (bothv (n - hf n) (m - hf n) false old p.dropLast).1]] ++ [jb [bNode, p.getLastD ByteArray.empty, (bothv (n - hf n) (m - hf n) false old p.dropLast).2]]
  else []
termination_by n
decreasing_by
  all_goals
    have h1 := hf_lt n _h.2
    have h2 := hf_pos n
    omega
theorem ltx_end (n m : Nat) (whole : Bool) (old : ByteArray) (p : List ByteArray) (h : ¬ m < n) : ltx n m whole old p = [] := by rw [ltx, dif_neg (fun e => h e.1)]
theorem ltx_le (n m : Nat) (whole : Bool) (old : ByteArray) (p : List ByteArray) (h1 : m < n) (h2 : 2 ≤ n) (h : m ≤ hf n) :
    ltx n m whole old p = ltx (hf n) m whole old p.dropLast ++ [jb [bNode, (bothv (hf n) m whole old p.dropLast).2, p.getLastD ByteArray.empty]] := by rw [ltx, dif_pos ⟨h1, h2⟩, if_pos h]
theorem ltx_gt (n m : Nat) (whole : Bool) (old : ByteArray) (p : List ByteArray) (h1 : m < n) (h2 : 2 ≤ n) (h : ¬ m ≤ hf n) :
    ltx n m whole old p = ltx (n - hf n) (m - hf n) false old p.dropLast ++ [jb [bNode, p.getLastD ByteArray.empty, (bothv (n - hf n) (m - hf n) false old p.dropLast).1]] ++ [jb [bNode, p.getLastD ByteArray.empty, (bothv (n - hf n) (m - hf n) false old p.dropLast).2]] := by rw [ltx, dif_pos ⟨h1, h2⟩, if_neg h]

theorem lk_len (l : List ByteArray) (m : Nat) (whole : Bool) (hm : 1 ≤ m) : (lk l m whole).length = llen l.length m whole := by
  obtain ⟨n, hn⟩ : ∃ n, l.length = n := ⟨_, rfl⟩
  induction n using Nat.strongRecOn generalizing l m whole with
  | _ n ih =>
    by_cases h : m < l.length
    · have h2 : 2 ≤ l.length := by omega
      have k1 := hf_lt l.length h2
      have k2 := hf_pos l.length
      have e : (l.take (hf l.length)).length = hf l.length := by rw [List.length_take]; omega
      have e2 : (l.drop (hf l.length)).length = l.length - hf l.length := by rw [List.length_drop]
      by_cases hm2 : m ≤ hf l.length
      · rw [lk_le _ _ _ h h2 hm2, llen_le _ _ _ h h2 hm2, List.length_append, ih _ (by rw [e]; omega) _ m whole hm rfl, e, List.length_singleton]; omega
      · rw [lk_gt _ _ _ h h2 hm2, llen_gt _ _ _ h h2 hm2, List.length_append, ih _ (by rw [e2]; omega) _ _ false (by omega) rfl, e2, List.length_singleton]; omega
    · rw [lk_end _ _ _ h, llen_end _ _ _ h]
      cases whole <;> rfl

/-- The root of the first m, as the tree of all parts them. -/
theorem rt_gt (l : List ByteArray) (m : Nat) (hm : ¬ m ≤ hf l.length) (h : m ≤ l.length) : rt (l.take m) = nd (rt (l.take (hf l.length))) (rt ((l.drop (hf l.length)).take (m - hf l.length))) := by
  have k2 := hf_pos l.length
  have e : (l.take m).length = m := by rw [List.length_take]; omega
  have e2 : hf (l.take m).length = hf l.length := by rw [e]; exact hf_mid _ _ (by omega) h
  rw [rt_split (l.take m) (hf l.length) (by rw [e]; omega) e2, List.take_take, List.drop_take]
  congr 2
  congr 1
  omega
theorem rt_le (l : List ByteArray) (m : Nat) (hm : m ≤ hf l.length) : (l.take (hf l.length)).take m = l.take m := by
  rw [List.take_take]; congr 1; omega

theorem link_both (l : List ByteArray) (m : Nat) (whole : Bool) (old : ByteArray) (hm : 1 ≤ m) (hml : m ≤ l.length) (ho : whole = true → old = rt (l.take m)) : bothv l.length m whole old (lk l m whole) = (rt (l.take m), rt l) := by
  obtain ⟨n, hn⟩ : ∃ n, l.length = n := ⟨_, rfl⟩
  induction n using Nat.strongRecOn generalizing l m whole with
  | _ n ih =>
    by_cases h : m < l.length
    · have h2 : 2 ≤ l.length := by omega
      have k1 := hf_lt l.length h2
      have k2 := hf_pos l.length
      have e : (l.take (hf l.length)).length = hf l.length := by rw [List.length_take]; omega
      have e2 : (l.drop (hf l.length)).length = l.length - hf l.length := by rw [List.length_drop]
      by_cases hm2 : m ≤ hf l.length
      · have := ih _ (by rw [e]; omega) (l.take (hf l.length)) m whole hm (by omega) (by rw [rt_le l m hm2]; exact ho) rfl
        rw [e, rt_le l m hm2] at this
        rw [lk_le _ _ _ h h2 hm2, bothv_le _ _ _ _ _ h h2 hm2, List.dropLast_concat, List.getLastD_concat, this, ← rt_two l h2]
      · have := ih _ (by rw [e2]; omega) (l.drop (hf l.length)) (m - hf l.length) false (by omega) (by omega) (by simp) rfl
        rw [e2] at this
        rw [lk_gt _ _ _ h h2 hm2, bothv_gt _ _ _ _ _ h h2 hm2, List.dropLast_concat, List.getLastD_concat, this, ← rt_two l h2, ← rt_gt l m hm2 hml]
    · have e : l.take m = l := List.take_of_length_le (by omega)
      rw [lk_end _ _ _ h, bothv_end _ _ _ _ _ h, e]
      rw [e] at ho
      cases whole
      · rfl
      · rw [if_pos rfl, ho rfl]

theorem link_bind (l : List ByteArray) (m : Nat) (whole : Bool) (old x : ByteArray) (p : List ByteArray) (hm : 1 ≤ m) (hml : m ≤ l.length) (h : bothv l.length m whole old p = (x, rt l)) : x = rt (l.take m) ∨ Col (txt l ++ ltx l.length m whole old p) := by
  obtain ⟨n, hn⟩ : ∃ n, l.length = n := ⟨_, rfl⟩
  induction n using Nat.strongRecOn generalizing l m whole p x with
  | _ n ih =>
    by_cases hlt : m < l.length
    · have h2 : 2 ≤ l.length := by omega
      have k1 := hf_lt l.length h2
      have k2 := hf_pos l.length
      have e : (l.take (hf l.length)).length = hf l.length := by rw [List.length_take]; omega
      have e2 : (l.drop (hf l.length)).length = l.length - hf l.length := by rw [List.length_drop]
      rw [txt_two l h2]
      by_cases hm2 : m ≤ hf l.length
      · rw [bothv_le _ _ _ _ _ hlt h2 hm2, rt_two l h2, Prod.mk.injEq] at h
        rw [ltx_le _ _ _ _ _ hlt h2 hm2]
        rcases nd_bind _ _ _ _ _ h.2 (List.mem_append.2 (.inr (List.mem_append.2 (.inr List.mem_cons_self)))) (List.mem_append.2 (.inl (List.mem_append.2 (.inr List.mem_cons_self)))) with ⟨e1, _⟩ | hc
        · have := ih _ (by rw [e]; omega) (l.take (hf l.length)) m whole x p.dropLast hm (by omega) (by rw [e, ← e1, ← h.1]) rfl
          rw [rt_le l m hm2, e] at this
          rcases this with hh | hc
          · exact .inl hh
          · exact .inr (hc.mono (fun x hx => by simp only [List.mem_append] at hx ⊢; rcases hx with hx | hx <;> simp [hx]))
        · exact .inr hc
      · rw [bothv_gt _ _ _ _ _ hlt h2 hm2, rt_two l h2, Prod.mk.injEq] at h
        rw [ltx_gt _ _ _ _ _ hlt h2 hm2]
        rcases nd_bind _ _ _ _ _ h.2 (List.mem_append.2 (.inr (List.mem_append.2 (.inr List.mem_cons_self)))) (List.mem_append.2 (.inl (List.mem_append.2 (.inr List.mem_cons_self)))) with ⟨e0, e1⟩ | hc
        · have := ih _ (by rw [e2]; omega) (l.drop (hf l.length)) (m - hf l.length) false (bothv (l.length - hf l.length) (m - hf l.length) false old p.dropLast).1 p.dropLast (by omega) (by omega) (by rw [e2, ← e1]) rfl
          rw [e2] at this
          rcases this with hh | hc
          · left
            rw [← h.1, e0, hh, ← rt_gt l m hm2 hml]
          · exact .inr (hc.mono (fun x hx => by simp only [List.mem_append] at hx ⊢; rcases hx with hx | hx <;> simp [hx]))
        · exact .inr hc
    · have e : l.take m = l := List.take_of_length_le (by omega)
      rw [bothv_end _ _ _ _ _ hlt] at h
      rw [e]
      left
      cases whole
      · simp only [Bool.false_eq_true, if_false, Prod.mk.injEq] at h; rw [← h.1, h.2]
      · simp only [if_true, Prod.mk.injEq] at h; rw [← h.1, h.2]

/-! ### lengths -/
def bdig (n : Nat) : Nat := if n = 0 then 0 else 1 + bdig (n / 2)
theorem bdig_pos (n : Nat) (h : 0 < n) : bdig n = 1 + bdig (n / 2) := by rw [bdig, if_neg (by omega)]
theorem bdig_pow (n j : Nat) (h : 2 ^ j ≤ n) : j + 1 ≤ bdig n := by
  induction j generalizing n with
  | zero => rw [bdig_pos n (by simp at h; omega)]; omega
  | succ j ih =>
    have h0 : 0 < n := by have := Nat.one_le_two_pow (n := j + 1); omega
    rw [bdig_pos n h0]
    have := ih (n / 2) (by rw [Nat.pow_succ] at h; omega)
    omega
theorem hf_pow (n : Nat) : ∃ j, hf n = 2 ^ j := by
  unfold hf; split
  · exact ⟨0, rfl⟩
  · exact ⟨_, rfl⟩
/-- A tree of n ≤ 2^j elements has paths of at most j. -/
theorem plen_pow (j n i : Nat) (h : n ≤ 2 ^ j) : plen n i ≤ j := by
  induction j generalizing n i with
  | zero => rw [plen_one n i (by simp at h; omega)]; exact Nat.zero_le _
  | succ j ih =>
    by_cases h2 : 2 ≤ n
    · have k1 := hf_lt n h2
      have k2 := hf_le n
      obtain ⟨a, ha⟩ := hf_pow n
      rw [Nat.pow_succ] at h
      have h3 : hf n ≤ 2 ^ j := by
        rw [ha] at k1 ⊢
        apply Nat.pow_le_pow_right (by decide)
        have : 2 ^ a < 2 ^ (j + 1) := by rw [Nat.pow_succ]; omega
        have := (Nat.pow_lt_pow_iff_right (by decide : 1 < 2)).1 this
        omega
      by_cases hi : i < hf n
      · rw [plen_lt n i h2 hi]; have := ih (hf n) i h3; omega
      · rw [plen_ge n i h2 hi]; have := ih (n - hf n) (i - hf n) (by omega); omega
    · rw [plen_one n i h2]; exact Nat.zero_le _
theorem llen_pow (j n m : Nat) (w : Bool) (h : n ≤ 2 ^ j) (hm : 1 ≤ m) : llen n m w ≤ j + 1 := by
  induction j generalizing n m w with
  | zero =>
    rw [llen_end n m w (by simp at h; omega)]; split <;> omega
  | succ j ih =>
    by_cases hl : m < n
    · have h2 : 2 ≤ n := by omega
      have k1 := hf_lt n h2
      have k2 := hf_le n
      obtain ⟨a, ha⟩ := hf_pow n
      rw [Nat.pow_succ] at h
      have h3 : hf n ≤ 2 ^ j := by
        rw [ha] at k1 ⊢
        apply Nat.pow_le_pow_right (by decide)
        have : 2 ^ a < 2 ^ (j + 1) := by rw [Nat.pow_succ]; omega
        have := (Nat.pow_lt_pow_iff_right (by decide : 1 < 2)).1 this
        omega
      by_cases hi : m ≤ hf n
      · rw [llen_le n m w hl h2 hi]; have := ih (hf n) m w h3 hm; omega
      · rw [llen_gt n m w hl h2 hi]; have := ih (n - hf n) (m - hf n) false (by omega) (by omega); omega
    · rw [llen_end n m w hl]; split <;> omega
theorem le_bdig (n : Nat) (h : 1 ≤ n) : ∃ j, n ≤ 2 ^ j ∧ j ≤ bdig n := by
  induction n using Nat.strongRecOn with
  | _ n ih =>
    by_cases h1 : n = 1
    · exact ⟨0, by omega, Nat.zero_le _⟩
    · obtain ⟨j, h2, h3⟩ := ih (n / 2) (by omega) (by omega)
      by_cases he : n % 2 = 0
      · exact ⟨j + 1, by rw [Nat.pow_succ]; omega, by rw [bdig_pos n (by omega)]; omega⟩
      · rcases Nat.lt_or_ge (n / 2) (2 ^ j) with h4 | h4
        · exact ⟨j + 1, by rw [Nat.pow_succ]; omega, by rw [bdig_pos n (by omega)]; omega⟩
        · have h5 : n / 2 = 2 ^ j := by omega
          have h6 := bdig_pow (n / 2) j (by omega)
          exact ⟨j + 2, by rw [Nat.pow_succ, Nat.pow_succ]; omega, by rw [bdig_pos n (by omega)]; omega⟩
theorem plen_bdig (n i : Nat) (h : 1 ≤ n) : plen n i ≤ bdig n := by
  obtain ⟨j, h1, h2⟩ := le_bdig n h
  exact Nat.le_trans (plen_pow j n i h1) h2
theorem llen_bdig (n m : Nat) (w : Bool) (h : 1 ≤ n) (hm : 1 ≤ m) : llen n m w ≤ bdig n + 1 := by
  obtain ⟨j, h1, h2⟩ := le_bdig n h
  exact Nat.le_trans (llen_pow j n m w h1 hm) (by omega)
theorem plen_zero (n i : Nat) : plen n i = 0 ↔ ¬ 2 ≤ n := by
  constructor
  · intro h h2
    by_cases hi : i < hf n
    · rw [plen_lt n i h2 hi] at h; omega
    · rw [plen_ge n i h2 hi] at h; omega
  · exact plen_one n i
theorem llen_zero (n m : Nat) (hm : 1 ≤ m) : llen n m true = 0 ↔ ¬ m < n := by
  constructor
  · intro h h2
    have h3 : 2 ≤ n := by omega
    by_cases hi : m ≤ hf n
    · rw [llen_le n m true h2 h3 hi] at h; omega
    · rw [llen_gt n m true h2 h3 hi] at h; omega
  · intro h; rw [llen_end n m true h]; rfl
end

section
open Go.RowKit

theorem laid_tab {P : Program} {W : World} {name : String} {k : IntKind} {zs : List Int} {g t e n : Nat} (hg : P.globalNamed name = some g) (hty : (P.globals[g]?).map (·.type) = some t) (ht : P.underlying t = some (.array n e)) (he : P.underlying e = some (.int k)) (hce : P.cellsOf e = 1) (hct : P.cellsOf t = n) :
    ∀ (laid : List (String × DataW Unit)) (ps : List MemPlace), DataW.LaidVars P W laid ps → (name, Go.Lib.tabData k zs) ∈ laid → Go.Lib.TabIs P W name k zs := by
  intro laid
  induction laid with
  | nil => intro ps _ h; cases h
  | cons x r ih =>
    intro ps h hm
    obtain ⟨nm, d⟩ := x
    obtain ⟨g', t', cs, fuel, p, q, hg', ht', hvar, hd, hr, _⟩ := h
    rcases List.mem_cons.1 hm with h1 | h1
    · injection h1 with h2 h3
      subst h2
      subst h3
      obtain rfl := Option.some.inj (hg.symm.trans hg')
      obtain rfl := Option.some.inj (hty.symm.trans ht')
      unfold Go.Lib.TabIs
      rw [hvar, ← Go.Lib.cells_of_tab ht he hce hct hd]
    · exact ih q hr h1

def tab64z : List Int := [0, 1, 56, 2, 57, 49, 28, 3, 61, 58, 42, 50, 38, 29, 17, 4, 62, 47, 59, 36, 45, 43, 51, 22, 53, 39, 33, 30, 24, 18, 12, 5, 63, 55, 48, 27, 60, 41, 37, 16, 46, 35, 44, 21, 52, 32, 23, 11, 54, 26, 40, 15, 34, 20, 31, 10, 25, 14, 19, 9, 13, 8, 7, 6]

theorem tabs_of {laid : List (String × DataW Unit)} {W : World} (h : laidMetH Tryz.prog laid W) (hp : (laid.all fun x => x.2.handleName?.isNone) = true)
    (h1 : ("math/bits.deBruijn64tab", (Rows.laid_math_bits_deBruijn64tab : DataW Unit)) ∈ laid) (h2 : ("internal/strconv.uint64pow10", (Rows.laid_internal_strconv_uint64pow10 : DataW Unit)) ∈ laid) : Tabs W := by
  rw [MakeChecks.laidMetH_plain _ _ _ hp] at h
  obtain ⟨ps, hl, _⟩ := h
  have e1 : (Rows.laid_math_bits_deBruijn64tab : DataW Unit) = Go.Lib.tabData .u8 tab64z := by rfl
  have e2 : (Rows.laid_internal_strconv_uint64pow10 : DataW Unit) = Go.Lib.tabData .u64 Go.Lib.pow10Tab := by rfl
  rw [e1] at h1
  rw [e2] at h2
  have g1 : Tryz.prog.globalNamed "math/bits.deBruijn64tab" = some 5 := by kernel_rfl
  have g2 : Tryz.prog.globalNamed "internal/strconv.uint64pow10" = some 0 := by kernel_rfl
  have k1 := laid_tab g1 (t := 220) (by kernel_rfl) Tryz.underlying220 Tryz.underlying5 (by kernel_rfl) (by kernel_rfl) laid ps hl h1
  have k2 := laid_tab g2 (t := 207) (by kernel_rfl) Tryz.underlying207 Tryz.underlying130 (by kernel_rfl) (by kernel_rfl) laid ps hl h2
  exact ⟨k1.cell g1 15 (by decide), k2⟩
end

section
open Go.RowKit

def bSp : ByteArray := ⟨#[32]⟩
def shT (s : Int × Int) : ByteArray := dec s.1.toNat ++ bSp ++ dec s.2.toNat
def shLf (s : Int × Int) : ByteArray := lf (shT s)
def shJ (s : Int × Int) : ByteArray := jb [bLeaf, shT s]

theorem dd_no32 (n : Nat) : ∀ c ∈ Go.Lib.decDigits n, c ≠ 32 := by
  induction n using Nat.strongRecOn with
  | _ n ih =>
    intro c hc
    rw [Go.Lib.decDigits] at hc
    have key : ∀ d, d < 10 → UInt8.ofNat (48 + d) ≠ 32 := by decide
    split at hc
    · next h => rw [List.mem_singleton.1 hc]; exact key n h
    · next h =>
      rcases List.mem_append.1 hc with h1 | h1
      · exact ih (n / 10) (by omega) c h1
      · rw [List.mem_singleton.1 h1]; exact key (n % 10) (by omega)
theorem cut_eq32 (p q X Y : List UInt8) (hp : ∀ c ∈ p, c ≠ 32) (hq : ∀ c ∈ q, c ≠ 32) (h : p ++ 32 :: X = q ++ 32 :: Y) : p = q ∧ X = Y := by
  induction p generalizing q with
  | nil =>
    cases q with
    | nil => exact ⟨rfl, by simpa using h⟩
    | cons c q =>
      simp only [List.nil_append, List.cons_append, List.cons.injEq] at h
      exact absurd h.1.symm (hq c List.mem_cons_self)
  | cons c p ih =>
    cases q with
    | nil =>
      simp only [List.nil_append, List.cons_append, List.cons.injEq] at h
      exact absurd h.1 (hp c List.mem_cons_self)
    | cons d q =>
      simp only [List.cons_append, List.cons.injEq] at h
      obtain ⟨h1, h2⟩ := ih q (fun x hx => hp x (List.mem_cons_of_mem _ hx)) (fun x hx => hq x (List.mem_cons_of_mem _ hx)) h.2
      exact ⟨by rw [h.1, h1], h2⟩

theorem shT_inj (s t : Int × Int) (hs : 0 ≤ s.1 ∧ 0 ≤ s.2) (ht : 0 ≤ t.1 ∧ 0 ≤ t.2) (h : shT s = shT t) : s = t := by
  have e : ∀ u : Int × Int, (shT u).data.toList = Go.Lib.decDigits u.1.toNat ++ 32 :: Go.Lib.decDigits u.2.toNat := fun u => by
    simp [shT, dec, bSp]
  have h1 := congrArg (fun x : ByteArray => x.data.toList) h
  simp only [e] at h1
  obtain ⟨h2, h3⟩ := cut_eq32 _ _ _ _ (dd_no32 _) (dd_no32 _) h1
  have h4 := dd_inj h2
  have h5 := dd_inj h3
  exact Prod.ext (by omega) (by omega)

theorem shT_size (s : Int × Int) (h1 : s.1 ≤ 16) (h2 : s.2 < 2147483647) : (shT s).size ≤ 60 := by
  have a1 := dec_len s.1.toNat 9 (by omega)
  have a2 := dec_len s.2.toNat 9 (by omega)
  have e : (shT s).size = (Go.Lib.decDigits s.1.toNat).length + 1 + (Go.Lib.decDigits s.2.toNat).length := by
    simp [shT, dec, bSp]
    show _ = _
    rfl
  omega

theorem commit_col (L : List (Int × Int)) (j : Nat) (s t : Int × Int) (p : List ByteArray) (hs : 0 ≤ s.1 ∧ 0 ≤ s.2) (ht : 0 ≤ t.1 ∧ 0 ≤ t.2) (hj : L[j]? = some t) (hne : s ≠ t)
    (h : upv L.length j (shLf s) p = rt (L.map shLf)) : Col (L.map shJ ++ txt (L.map shLf) ++ [shJ s] ++ ptx L.length j (shLf s) p) := by
  have hb := path_bind (L.map shLf) j (shLf s) (shLf t) p (by rw [List.getElem?_map, hj]; rfl) (by rw [List.length_map]; exact h)
  rw [List.length_map] at hb
  rcases hb with hb | hb
  · refine ⟨shJ s, ?_, shJ t, ?_, ?_, hb⟩
    · exact List.mem_append.2 (.inl (List.mem_append.2 (.inr List.mem_cons_self)))
    · exact List.mem_append.2 (.inl (List.mem_append.2 (.inl (List.mem_append.2 (.inl (List.mem_map.2 ⟨t, List.mem_of_getElem? hj, rfl⟩))))))
    · intro e
      have e1 := jb_inj e
      simp only [List.cons.injEq, and_true, true_and] at e1
      exact hne (shT_inj s t hs ht e1)
  · exact hb.mono fun x hx => by
      rcases List.mem_append.1 hx with h1 | h1
      · exact List.mem_append.2 (.inl (List.mem_append.2 (.inl (List.mem_append.2 (.inr h1)))))
      · exact List.mem_append.2 (.inr h1)
end

section
open Go.RowKit

/-- The class: whatever new memory lies behind that of w. -/
theorem wp_region_below {P : Program} {id : Nat} {Q : Exit → Act → World → Prop} {a : Act} {w : World} {l : List Oper} (hm : P.follows .mixedOrders = true) (hB : Region.lexB .any l.toArray = true)
    (h : wpQuiet P l.toArray (fun W => Below w.heap.size w W) (fun a' => ∀ W, Below w.heap.size w W → Q .normal a' W) l a) : (Code.region id l.toArray true).wp P Q a w :=
  wp_region_quiet (C := fun W => Below w.heap.size w W) hm hB (Below.drew (Below.refl _ _)) (by simpa using h)

theorem quiet_op {P : Program} {ops : Array Oper} {C : World → Prop} {Q : Act → Prop} {a : Act} {o : Oper} {rest : List Oper} (v : Value) (hw : Region.wanted o (yielded ops a.tmps) = true)
    (h1 : ∀ W, C W → o.quietAt P a C W v) (h2 : wpQuiet P ops C Q rest (a.put o.dst v)) : wpQuiet P ops C Q (o :: rest) a := by
  unfold wpQuiet
  rw [if_pos hw]
  exact ⟨v, h1, h2⟩
theorem quiet_none {P : Program} {ops : Array Oper} {C : World → Prop} {Q : Act → Prop} {a : Act} {o : Oper} {rest : List Oper} (hw : Region.wanted o (yielded ops a.tmps) = false)
    (h2 : wpQuiet P ops C Q rest (a.put o.dst undef)) : wpQuiet P ops C Q (o :: rest) a := by
  unfold wpQuiet
  rw [if_neg (by simp [hw])]
  exact h2
end

section
open Go.RowKit

def sm (l : List ByteArray) : Prop := ∀ s, s ∈ l → s.size ≤ 200
theorem sm.take {l : List ByteArray} (h : sm l) (k : Nat) : sm (l.take k) := fun s hs => h s (List.mem_of_mem_take hs)
theorem sm.drop {l : List ByteArray} (h : sm l) (k : Nat) : sm (l.drop k) := fun s hs => h s (List.mem_of_mem_drop hs)
theorem nd_size (a b : ByteArray) : (nd a b).size = 16 := dg_size _
theorem rt_size (l : List ByteArray) (h : sm l) : (rt l).size ≤ 200 := by
  by_cases h2 : 2 ≤ l.length
  · rw [rt_two l h2, nd_size]; omega
  · match l, h2 with
    | [], _ => rw [rt_nil]; show (dg _).size ≤ 200; rw [dg_size]; omega
    | [x], _ => rw [rt_one]; exact h x List.mem_cons_self
    | x :: y :: l, h2 => simp at h2
theorem Strs.take {w : World} {A : Option Addr} {xs : List ByteArray} (h : Strs w A xs) (k : Nat) : Strs w A (xs.take k) := by
  refine ⟨by simp, fun hn => ?_⟩
  have hl : 0 < xs.length := by rw [List.length_take] at hn; omega
  obtain ⟨b, off, e, hc⟩ := h.2 hl
  refine ⟨b, off, e, fun j u hu => hc j u ?_⟩
  rw [List.getElem?_map, List.getElem?_take] at hu
  rw [List.getElem?_map]
  split at hu
  · exact hu
  · simp at hu
theorem Strs.drop {w : World} {b off : Nat} {xs : List ByteArray} (h : Strs w (some ⟨b, off, none⟩) xs) (k : Nat) : Strs w (some ⟨b, off + k, none⟩) (xs.drop k) := by
  refine ⟨by simp, fun hn => ⟨b, off + k, rfl, fun j u hu => ?_⟩⟩
  have hl : 0 < xs.length := by rw [List.length_drop] at hn; omega
  obtain ⟨b', off', e, hc⟩ := h.2 hl
  obtain ⟨rfl, rfl⟩ : b = b' ∧ off = off' := by simpa using e
  rw [List.getElem?_map, List.getElem?_drop, ← List.getElem?_map] at hu
  rw [Nat.add_assoc]
  exact hc (k + j) u hu

set_option maxHeartbeats 1600000 in
theorem half_any (n : Nat) (h : n ≤ 1000000) (w : World) : Calls Tryz.prog 94 #[.int .i64 n] w fun e w' => e = .returned (.int .i64 (hf n)) ∧ w = w' := by
  go_enter Tryz.func94, Tryz.ntmps94
  go_wp2_with fail
  go_loop [3] (fun u => ∃ j k : Nat, k = 2 ^ j ∧ (k < n ∨ j = 0) ∧ u = .int .i64 k) (fun u => n - (intOf u).toNat)
  case atStart => exact ⟨0, 1, rfl, .inr rfl, rfl⟩
  case round =>
    obtain ⟨j, k, hk, hj, rfl⟩ := hrel
    have hk1 : 1 ≤ k := by rw [hk]; exact Nat.one_le_two_pow
    have hk2 : k ≤ 1000000 := by
      rcases hj with h1 | rfl
      · omega
      · simp at hk; omega
    have HK := Lib.hid hk
    have HJ := Lib.hid hj
    clear hk hj
    by_cases hlt : 2 * k < n
    · go_wp2
      go_round
      case rel => exact ⟨j + 1, 2 * k, by rw [HK.out, Nat.pow_succ]; omega, .inl hlt, by go_num⟩
      case measure => simp [intOf]; omega
    · have he : hf n = k := by
        have := hf_eq n j (by rcases HJ.out with h1 | h1; exact .inl (by rw [← HK.out]; exact h1); exact .inr h1) (by rw [← HK.out]; omega)
        rw [this, HK.out]
      have HE := Lib.hid he
      clear he
      go_wp2
      go_ret
      exact ⟨ret_int (by rw [HE.out]), rfl⟩

theorem jb3 (a b c : ByteArray) (ha : a.size ≤ 200) (hb : b.size ≤ 200) (hc : c.size ≤ 200) : (jn [a, b, c]).length ≤ 1000 := by
  have := jn_few [a, b, c] (by
    intro s hs
    simp only [List.mem_cons, List.not_mem_nil, or_false] at hs
    rcases hs with rfl | rfl | rfl <;> assumption)
  simp only [List.length_cons, List.length_nil] at this; omega
theorem jb2 (a b : ByteArray) (ha : a.size ≤ 200) (hb : b.size ≤ 200) : (jn [a, b]).length ≤ 1000 := by
  have := jn_few [a, b] (by
    intro s hs
    simp only [List.mem_cons, List.not_mem_nil, or_false] at hs
    rcases hs with rfl | rfl <;> assumption)
  simp only [List.length_cons, List.length_nil] at this; omega

set_option maxHeartbeats 1600000 in
theorem node_any (a b : ByteArray) (ha : a.size ≤ 200) (hb : b.size ≤ 200) (w : World) (hT : Tabs w) :
    Calls Tryz.prog 109 #[.string a, .string b] w fun e w' => e = .returned (.string (nd a b)) ∧ Below w.heap.size w w' := by
  obtain ⟨wa, hwa⟩ : ∃ wa, w.alloc (.cells #[.string bNode, .string a, .string b] 9) = wa := ⟨_, rfl⟩
  have HBA : Hid (Below w.heap.size w wa) := Lib.hid (by rw [← hwa]; exact below_alloc (Below.refl _ _) _)
  have HSA : Hid (Strs wa (some ⟨w.heap.size, 0, none⟩) [bNode, a, b]) := Lib.hid (by rw [← hwa]; exact Strs_new _ _ _ _ _ rfl rfl)
  have HWA := Lib.hid hwa
  have hj := jb3 bNode a b (by decide) ha hb
  have HL := Lib.hid (list_any (some ⟨w.heap.size, 0, none⟩) 3 [bNode, a, b] wa HSA.out (hT.below HBA.out) (by omega) (by simp))
  clear hwa hT hj
  go_enter Tryz.func109, Tryz.ntmps109
  go_wp2_with fail
  have hwa := HWA.out
  unfold bNode at hwa
  rw [hwa]
  refine HL.out.mono ?_
  rintro e w1 ⟨rfl, hb1⟩
  have HB1 := Lib.hid (below_trans HBA.out hb1)
  clear hb1 hwa
  go_wp2
  go_ret
  exact ⟨rfl, HB1.out⟩

set_option maxHeartbeats 1600000 in
theorem leaf_any (a : ByteArray) (ha : a.size ≤ 200) (w : World) (hT : Tabs w) :
    Calls Tryz.prog 111 #[.string a] w fun e w' => e = .returned (.string (lf a)) ∧ Below w.heap.size w w' := by
  obtain ⟨wa, hwa⟩ : ∃ wa, w.alloc (.cells #[.string bLeaf, .string a] 9) = wa := ⟨_, rfl⟩
  have HBA : Hid (Below w.heap.size w wa) := Lib.hid (by rw [← hwa]; exact below_alloc (Below.refl _ _) _)
  have HSA : Hid (Strs wa (some ⟨w.heap.size, 0, none⟩) [bLeaf, a]) := Lib.hid (by rw [← hwa]; exact Strs_new _ _ _ _ _ rfl rfl)
  have HWA := Lib.hid hwa
  have hj := jb2 bLeaf a (by decide) ha
  have HL := Lib.hid (list_any (some ⟨w.heap.size, 0, none⟩) 2 [bLeaf, a] wa HSA.out (hT.below HBA.out) (by omega) (by simp))
  clear hwa hT hj
  go_enter Tryz.func111, Tryz.ntmps111
  go_wp2_with fail
  have hwa := HWA.out
  unfold bLeaf at hwa
  rw [hwa]
  refine HL.out.mono ?_
  rintro e w1 ⟨rfl, hb1⟩
  have HB1 := Lib.hid (below_trans HBA.out hb1)
  clear hb1 hwa
  go_wp2
  go_ret
  exact ⟨rfl, HB1.out⟩

set_option maxRecDepth 100000 in
set_option maxHeartbeats 8000000 in
theorem totalc_any (n : Nat) : ∀ (fb : Nat) (A : Option Addr) (c : Nat) (l : List ByteArray) (w : World), l.length ≤ n → 1 ≤ l.length → l.length ≤ 1000000 → l.length ≤ c →
    w.cell? ⟨fb, 0, none⟩ = some (.func (.func 122) #[] #[.pointer (some ⟨fb, 0, none⟩)]) → Strs w A l → sm l → Tabs w →
    Calls Tryz.prog 122 #[.slice A l.length c, .pointer (some ⟨fb, 0, none⟩)] w fun e w' => e = .returned (.string (rt l)) ∧ Below w.heap.size w w' := by
  induction n with
  | zero => intro fb A c l w h1 h2; omega
  | succ n ih =>
    intro fb A c l w hn h1 hbig hcap hfc hS hsm hT
    have IH := Lib.hid ih
    by_cases h2 : 2 ≤ l.length
    · obtain ⟨b, off, rfl, -⟩ := hS.2 (by omega)
      obtain ⟨k, hk⟩ : ∃ k, hf l.length = k := ⟨_, rfl⟩
      have HH := Lib.hid (half_any l.length hbig w)
      rw [hk] at HH
      have k1 := hf_lt l.length h2
      have k2 := hf_pos l.length
      rw [hk] at k1 k2
      have hrt := rt_split l k h2 hk
      have hs1 := rt_size _ (hsm.take k)
      have hs2 := rt_size _ (hsm.drop k)
      have H1 : Hid (∀ W, Below w.heap.size w W → Calls Tryz.prog 122 #[.slice (some ⟨b, off, none⟩) k c, .pointer (some ⟨fb, 0, none⟩)] W fun e w' => e = .returned (.string (rt (l.take k))) ∧ Below w.heap.size w w') := Lib.hid (fun W hW => by
        have := ih fb (some ⟨b, off, none⟩) c (l.take k) W (by rw [List.length_take]; omega) (by rw [List.length_take]; omega) (by rw [List.length_take]; omega) (by rw [List.length_take]; omega) (kept_cell hW hfc) ((hS.below hW).take k) (hsm.take k) (hT.below hW)
        rw [List.length_take, Nat.min_eq_left (by omega)] at this
        exact this.mono fun _ _ ⟨he, hb⟩ => ⟨he, below_trans hW hb⟩)
      have H2 : Hid (∀ W, Below w.heap.size w W → Calls Tryz.prog 122 #[.slice (some ⟨b, off + k, none⟩) (l.length - k) (c - k), .pointer (some ⟨fb, 0, none⟩)] W fun e w' => e = .returned (.string (rt (l.drop k))) ∧ Below w.heap.size w w') := Lib.hid (fun W hW => by
        have := ih fb (some ⟨b, off + k, none⟩) (c - k) (l.drop k) W (by rw [List.length_drop]; omega) (by rw [List.length_drop]; omega) (by rw [List.length_drop]; omega) (by rw [List.length_drop]; omega) (kept_cell hW hfc) ((hS.below hW).drop k) (hsm.drop k) (hT.below hW)
        rw [List.length_drop] at this
        exact this.mono fun _ _ ⟨he, hb⟩ => ⟨he, below_trans hW hb⟩)
      have H3 : Hid (∀ W, Below w.heap.size w W → Calls Tryz.prog 109 #[.string (rt (l.take k)), .string (rt (l.drop k))] W fun e w' => e = .returned (.string (nd (rt (l.take k)) (rt (l.drop k)))) ∧ Below w.heap.size w w') := Lib.hid (fun W hW => (node_any _ _ hs1 hs2 W (hT.below hW)).mono fun _ _ ⟨he, hb⟩ => ⟨he, below_trans hW hb⟩)
      have HC : Hid (∀ W, Below w.heap.size w W → W.cell? ⟨fb, 0, none⟩ = some (.func (.func 122) #[] #[.pointer (some ⟨fb, 0, none⟩)])) := Lib.hid (fun W hW => kept_cell hW hfc)
      rw [hrt]
      generalize rt (l.take k) = r1 at *
      generalize rt (l.drop k) = r2 at *
      generalize l.length = m at *
      clear hrt hs1 hs2 hS hsm hT hfc IH ih hk h2
      have hne : ¬ (m : Int) = 1 := by omega
      have hkm : (k : Int) ≤ (m : Int) := by omega
      have hkc : (k : Int) ≤ (c : Int) := by omega
      have hck : (c = k) = False := by simp; omega
      go_enter Tryz.func122, Tryz.ntmps122
      go_wp2_with fail
      refine HH.out.mono ?_
      rintro e _ ⟨rfl, rfl⟩
      go_wp2_with fail
      refine wp_region_below (by kernel_rfl) (by kernel_rfl) ?_
      refine wpQuiet_step (fun K hK => ?_)
      go_simp
      apply Exists.intro
      refine ⟨fun W hW => ?_, hK _ ?_⟩
      · (have c1 := HC.out W hW
         try go_simp
         exact rfl)
      clear hK K
      refine wpQuiet_step (fun K hK => ?_)
      go_simp
      apply Exists.intro
      refine ⟨fun W hW => ?_, hK _ ?_⟩
      · (try go_simp
         exact rfl)
      clear hK K
      refine wpQuiet_step (fun K hK => ?_)
      go_simp
      apply Exists.intro
      refine ⟨fun W hW => ?_, hK _ ?_⟩
      · (try go_simp
         exact rfl)
      clear hK K
      refine wpQuiet_step (fun K hK => ?_)
      go_simp
      apply Exists.intro
      refine ⟨fun W hW => ?_, hK _ ?_⟩
      · (try go_simp
         exact rfl)
      clear hK K
      refine wpQuiet_step (fun K hK => ?_)
      go_simp
      apply Exists.intro
      refine ⟨fun W hW => ?_, hK _ ?_⟩
      · (try go_simp
         exact H1.out W hW)
      clear hK K
      refine wpQuiet_step (fun K hK => ?_)
      go_simp
      apply Exists.intro
      refine ⟨fun W hW => ?_, hK _ ?_⟩
      · (have c1 := HC.out W hW
         try go_simp
         exact rfl)
      clear hK K
      refine wpQuiet_step (fun K hK => ?_)
      go_simp
      apply Exists.intro
      refine ⟨fun W hW => ?_, hK _ ?_⟩
      · (try go_simp
         exact rfl)
      clear hK K
      refine wpQuiet_step (fun K hK => ?_)
      go_simp
      apply Exists.intro
      refine ⟨fun W hW => ?_, hK _ ?_⟩
      · (try go_simp
         exact rfl)
      clear hK K
      refine wpQuiet_step (fun K hK => ?_)
      go_simp
      apply Exists.intro
      refine ⟨fun W hW => ?_, hK _ ?_⟩
      · (try go_simp
         exact rfl)
      clear hK K
      refine wpQuiet_step (fun K hK => ?_)
      go_simp
      apply Exists.intro
      refine ⟨fun W hW => ?_, hK _ ?_⟩
      · (try go_simp
         exact H2.out W hW)
      clear hK K
      refine wpQuiet_step (fun K hK => ?_)
      go_simp
      apply Exists.intro
      refine ⟨fun W hW => ?_, hK _ ?_⟩
      · (try go_simp
         exact H3.out W hW)
      clear hK K
      refine wpQuiet_step (fun K hK => ?_)
      go_simp
      apply Exists.intro
      refine ⟨fun W hW => ?_, hK _ ?_⟩
      · (try go_simp
         exact rfl)
      clear hK K
      refine wpQuiet_nil ?_
      intro W hW
      go_wp2
      go_ret
      exact ⟨rfl, hW⟩
    · obtain ⟨x, rfl⟩ : ∃ x, l = [x] := by
        match l, h1, h2 with
        | [x], _, _ => exact ⟨x, rfl⟩
        | x :: y :: l, _, h2 => simp at h2
      obtain ⟨b, off, rfl, c0⟩ := hS.at_ (k := 0) (x := x) rfl
      have c0l := lt_of_cell c0
      rw [rt_one]
      clear ih IH hS hsm hT
      simp only [List.length_singleton, Nat.add_zero] at *
      go_enter Tryz.func122, Tryz.ntmps122
      go_wp2
      go_ret
      exact ⟨rfl, Below.refl _ _⟩
end

section
open Go.RowKit

set_option maxRecDepth 100000 in
set_option maxHeartbeats 4000000 in
theorem total_any (A : Option Addr) (c : Nat) (l : List ByteArray) (w : World) (hbig : l.length ≤ 1000000) (hcap : l.length ≤ c) (hS : Strs w A l) (hsm : sm l) (hT : Tabs w) :
    Calls Tryz.prog 89 #[.slice A l.length c] w fun e w' => e = .returned (.string (rt l)) ∧ Below w.heap.size w w' := by
  obtain ⟨wf, hwf⟩ : ∃ wf, (w.alloc (.cells #[.func (.func 122) #[] #[.pointer (some ⟨w.heap.size, 0, none⟩)]] 108)) = wf := ⟨_, rfl⟩
  have HBF : Hid (Below w.heap.size w wf) := Lib.hid (by rw [← hwf]; exact below_alloc (Below.refl _ _) _)
  have HCF : Hid (wf.cell? ⟨w.heap.size, 0, none⟩ = some (.func (.func 122) #[] #[.pointer (some ⟨w.heap.size, 0, none⟩)])) := Lib.hid (by rw [← hwf]; simp)
  by_cases h0 : l.length = 0
  · obtain rfl : l = [] := List.eq_nil_of_length_eq_zero h0
    rw [rt_nil]
    have HL := Lib.hid (list_any (some ⟨wf.heap.size, 0, none⟩) 1 [bEmpty] (wf.alloc (.cells #[.string bEmpty] 9)) (Strs_new _ _ _ _ _ rfl rfl) (hT.below (below_alloc HBF.out _)) (by have := jn_few [bEmpty] (by intro s hs; rw [List.mem_singleton.1 hs]; decide); simp only [List.length_singleton] at this; omega) (by simp))
    have HB2 : Hid (Below w.heap.size w (wf.alloc (.cells #[.string bEmpty] 9))) := Lib.hid (below_alloc HBF.out _)
    unfold bEmpty at HL HB2
    clear hT
    go_enter Tryz.func89, Tryz.ntmps89
    go_wp2_with fail
    refine HL.out.mono ?_
    rintro e w1 ⟨rfl, hb1⟩
    have HB1 := Lib.hid (below_trans HB2.out hb1)
    clear hb1
    go_wp2
    go_ret
    exact ⟨rfl, HB1.out⟩
  · have HC := Lib.hid ((totalc_any l.length w.heap.size A c l wf (Nat.le_refl _) (by omega) hbig hcap HCF.out (hS.below HBF.out) hsm (hT.below HBF.out)).mono fun _ _ ⟨he, hb⟩ => (⟨he, below_trans HBF.out hb⟩ : _ ∧ Below w.heap.size w _))
    have HWF := Lib.hid hwf
    clear hS hsm hT hwf
    have hl1 : ¬ l.length = 0 := h0
    generalize rt l = r at *
    generalize l.length = m at *
    have hl2 : ((m : Int) == 0) = false := by simp; omega
    go_enter Tryz.func89, Tryz.ntmps89
    go_wp2_with fail
    rw [HWF.out]
    refine HC.out.mono ?_
    rintro e w1 ⟨rfl, hb1⟩
    have HB1 := Lib.hid hb1
    clear hb1
    go_wp2
    go_ret
    exact ⟨rfl, HB1.out⟩

/-! ### proper -/
theorem notis_any (s : ByteArray) (hs : s.size ≤ 1000000000) (w : World) : Calls Tryz.prog 121 #[.string s] w fun e w' => e = .returned (.bool (!isD s)) ∧ Below w.heap.size w w' := by
  have H := Lib.hid (is_any s w hs)
  go_enter Tryz.func121, Tryz.ntmps121
  go_wp2_with fail
  refine H.out.mono ?_
  rintro e w1 ⟨rfl, hb1⟩
  have HB1 := Lib.hid hb1
  clear hb1
  go_wp2
  go_ret
  exact ⟨rfl, HB1.out⟩

def badAt (l : List ByteArray) : Int := match l.findIdx? (fun s => !isD s) with | some i => i | none => -1
set_option maxHeartbeats 4000000 in
theorem idx_any (A : Option Addr) (c : Nat) (l : List ByteArray) (w : World) (hbig : l.length ≤ 1000000) (hS : Strs w A l) (hsm : ∀ s, s ∈ l → s.size ≤ 1000000000) :
    Calls Tryz.prog 146 #[.slice A l.length c, .func (.func 121) #[] #[]] w fun e w' => (∃ v : Int, e = .returned (.int .i64 v) ∧ (0 ≤ v ↔ allD l = false)) ∧ Below w.heap.size w w' := by
  have HS := Lib.hid hS
  have HSM := Lib.hid hsm
  clear hS hsm
  go_enter Tryz.func146, Tryz.ntmps146
  go_wp2_with fail
  go_loopw [8] (fun u8 wr => ∃ k : Nat, k ≤ l.length ∧ u8 = .int .i64 k ∧ allD (l.take k) = true ∧ Below w.heap.size w wr) (fun u8 _ => l.length - (intOf u8).toNat)
  case atStart => exact ⟨0, Nat.zero_le _, rfl, rfl, Below.refl _ _⟩
  case round =>
    obtain ⟨k, hk, rfl, hall, hb⟩ := hrel
    have HALL := Lib.hid hall
    have HB := Lib.hid hb
    clear hall hb
    by_cases hlt : k < l.length
    · obtain ⟨s, hs⟩ := get_some l k hlt
      obtain ⟨b, off, rfl, c0⟩ := (HS.out.below HB.out).at_ hs
      have c0l := lt_of_cell c0
      have HC := Lib.hid (notis_any s (HSM.out s (List.mem_of_getElem? hs)) wr)
      have hall2 : allD (l.take (k + 1)) = isD s := by
        have := all_take_succ isD l k s hs
        unfold allD at HALL ⊢
        rw [this, HALL.out, Bool.true_and]
      have HA2 := Lib.hid hall2
      have hmem : s ∈ l := List.mem_of_getElem? hs
      have hbad : isD s = false → allD l = false := fun h => by
        unfold allD
        rw [List.all_eq_false]
        exact ⟨s, hmem, by simp [h]⟩
      have HBAD := Lib.hid hbad
      clear hs hall2 hbad hmem
      obtain ⟨v, hv⟩ : ∃ v, isD s = v := ⟨_, rfl⟩
      rw [hv] at HC HA2 HBAD
      clear hv
      go_wp2_with fail
      refine HC.out.mono ?_
      rintro e w1 ⟨rfl, hb1⟩
      have HB1 := Lib.hid (below_trans HB.out hb1)
      clear hb1
      cases v with
      | true =>
        go_wp2
        go_roundw
        case rel => exact ⟨k + 1, by omega, by go_num, HA2.out, HB1.out⟩
        case measure => simp [intOf]; omega
      | false =>
        go_wp2
        go_ret
        exact ⟨⟨k, rfl, fun _ => by first | exact HBAD.out rfl | exact HBAD.out trivial, fun _ => Int.natCast_nonneg k⟩, HB1.out⟩
    · obtain rfl : k = l.length := by omega
      rw [List.take_length] at HALL
      go_wp2
      go_ret
      exact ⟨⟨-1, rfl, by rw [HALL.out]; simp⟩, HB.out⟩

set_option maxHeartbeats 1600000 in
theorem proper_any (A : Option Addr) (c : Nat) (l : List ByteArray) (w : World) (hbig : l.length ≤ 1000000) (hS : Strs w A l) (hsm : ∀ s, s ∈ l → s.size ≤ 1000000000) :
    Calls Tryz.prog 88 #[.slice A l.length c] w fun e w' => e = .returned (.bool (allD l)) ∧ Below w.heap.size w w' := by
  have H := Lib.hid (idx_any A c l w hbig hS hsm)
  clear hS hsm
  have HC : Hid (Calls Tryz.prog 120 #[.slice A l.length c, .func (.func 121) #[] #[]] w fun e w' => e = .returned (.bool (!allD l)) ∧ Below w.heap.size w w') := Lib.hid (by
    go_enter Tryz.func120, Tryz.ntmps120
    go_wp2_with fail
    refine H.out.mono ?_
    rintro e w1 ⟨⟨v, rfl, hv⟩, hb1⟩
    have HB1 := Lib.hid hb1
    have HV := Lib.hid hv
    clear hb1 hv
    go_wp2
    go_ret
    refine ⟨ret_bool ?_, HB1.out⟩
    have := HV.out
    cases h : allD l <;> rw [h] at this <;> simp at this <;> simp [this])
  go_enter Tryz.func88, Tryz.ntmps88
  go_wp2_with fail
  refine HC.out.mono ?_
  rintro e w1 ⟨rfl, hb1⟩
  have HB1 := Lib.hid hb1
  clear hb1
  go_wp2
  go_ret
  exact ⟨ret_bool (by simp), HB1.out⟩

set_option maxHeartbeats 1600000 in
theorem root_any (A : Option Addr) (c : Nat) (l : List ByteArray) (w : World) (hbig : l.length ≤ 1000000) (hcap : l.length ≤ c) (hS : Strs w A l) (hsm : sm l) (hT : Tabs w) :
    Calls Tryz.prog 43 #[.slice A l.length c] w fun e w' => e = .returned (.tuple #[.string (if allD l then rt l else ByteArray.empty), .int .i64 (if allD l then 0 else 1)]) ∧ Below w.heap.size w w' := by
  have HP := Lib.hid (proper_any A c l w hbig hS (fun s hs => by have := hsm s hs; omega))
  have HT : Hid (∀ W, Below w.heap.size w W → Calls Tryz.prog 89 #[.slice A l.length c] W fun e w' => e = .returned (.string (rt l)) ∧ Below w.heap.size w w') := Lib.hid (fun W hW => (total_any A c l W hbig hcap (hS.below hW) hsm (hT.below hW)).mono fun _ _ ⟨he, hb⟩ => ⟨he, below_trans hW hb⟩)
  clear hS hsm hT
  cases hv : allD l
  all_goals
    rw [hv] at HP
    clear hv
    go_enter Tryz.func43, Tryz.ntmps43
    go_wp2_with fail
    refine HP.out.mono ?_
    rintro e w1 ⟨rfl, hb1⟩
    have HB1 := Lib.hid hb1
    clear hb1
    go_wp2_with fail
  · go_ret2
    exact ⟨rfl, HB1.out⟩
  · refine (HT.out w1 HB1.out).mono ?_
    rintro e w2 ⟨rfl, hb2⟩
    have HB2 := Lib.hid hb2
    clear hb2
    go_wp2
    go_ret2
    exact ⟨rfl, HB2.out⟩
end

section
open Go.RowKit

theorem Strs.chg {w w' : World} {A : Option Addr} {l : List ByteArray} {F : List Nat} (h : Strs w A l) (hc : Chg F w w') (hF : ∀ a, A = some a → a.block ∉ F) : Strs w' A l := by
  refine ⟨h.1, fun hn => ?_⟩
  obtain ⟨b, off, e, hv⟩ := h.2 hn
  exact ⟨b, off, e, fun j u hu => hc.cell (hF _ e) (hv j u hu)⟩

set_option maxRecDepth 100000 in
set_option maxHeartbeats 4000000 in
theorem pop_any (Db : Nat) (A : Option Addr) (c : Nat) (p : List ByteArray) (w : World) (hD : Blk w Db 126 #[.slice A p.length c]) (hS : Strs w A p) (hc : p.length ≤ c) (hbig : p.length ≤ 1000000) :
    Calls Tryz.prog 144 #[.pointer (some ⟨Db, 0, none⟩)] w fun e w' => e = .returned (.string (p.getLastD ByteArray.empty)) ∧ Chg [Db] w w' ∧ Blk w' Db 126 #[.slice A p.dropLast.length c] := by
  have c0 := hD.cell 0
  have f0 := hD.frozen 0
  have hl := hD.lt
  simp only [List.getElem?_toArray, List.getElem?_cons_zero] at c0
  have HD := Lib.hid hD
  clear hD
  by_cases h0 : p.length = 0
  · obtain rfl : p = [] := List.eq_nil_of_length_eq_zero h0
    simp only [List.length_nil] at c0
    go_enter Tryz.func144, Tryz.ntmps144
    go_wp2
    go_ret
    exact ⟨rfl, Chg.refl _ _, HD.out⟩
  · obtain ⟨k, hk⟩ : ∃ k, p.length = k + 1 := ⟨p.length - 1, by omega⟩
    obtain ⟨x, hx⟩ := get_some p k (by omega)
    obtain ⟨b, off, rfl, c1⟩ := hS.at_ hx
    have c1l := lt_of_cell c1
    have hlast : p.getLastD ByteArray.empty = x := by
      rw [List.getLastD_eq_getLast?, List.getLast?_eq_getElem?, hk]
      simp only [Nat.add_sub_cancel, hx, Option.getD_some]
    have hdl : p.dropLast.length = k := by rw [List.length_dropLast, hk]; rfl
    rw [hlast, hdl]
    rw [hk] at c0 hc hbig HD
    have hwr : IntKind.i64.wrap (((k + 1 : Nat) : Int) - 1) = (k : Int) := by rw [IntWalk.i64_in _ (by omega)]; omega
    generalize hK : k + 1 = K at *
    have hkK : k < K := by omega
    have hkc : (k : Int) ≤ (c : Int) := by omega
    have hkk : (k : Int) ≤ (K : Int) := by omega
    have hK0 : ((K : Int) == 0) = false := by simp; omega
    have HKK := Lib.hid hK
    clear hlast hdl hk hS hx h0 hK
    go_enter Tryz.func144, Tryz.ntmps144
    go_wp2_with fail
    refine wp_region_still_lit (by kernel_rfl) (by kernel_rfl) ?_
    repeat still_step
    refine wpStill_nil ?_
    change Exit.then _ _ Exit.normal _ (World.drew w)
    go_wp2_with fail
    refine wp_region_still_tail 11 (by kernel_rfl) (by kernel_rfl) ?_
    simp only [List.take_succ_cons, List.take_zero, List.drop_succ_cons, List.drop_zero]
    change wpStill _ _ (World.drew _) _ _ _
    repeat still_step
    refine wpStill_nil ?_
    change wpList _ _ _ _ _ (World.drew _)
    go_wp2
    go_ret
    have h1 := HD.out.set 0 (.slice (some ⟨b, off, none⟩) k c)
    simp at h1
    exact ⟨rfl, ((Chg.refl [Db] w).setCell (p := ⟨Db, 0, none⟩) (.inl (by simp)) _).drew.drew, h1⟩

/-- What is left of a proof: the blocks of its list and of itself. -/
structure PrS (w : World) (Db Pb : Nat) (p : List ByteArray) (short : Bool) : Prop where
  ex : ∃ A c, Blk w Db 126 #[.slice A p.length c] ∧ Strs w A p ∧ p.length ≤ c ∧ (∀ a, A = some a → a.block ∉ [Db, Pb])
  pr : Blk w Pb 140 #[.pointer (some ⟨Db, 0, none⟩), .bool short]
  ne : Db ≠ Pb
  few : p.length ≤ 1000000
  all : allD p = true

theorem PrS.chg {w w' : World} {Db Pb : Nat} {p : List ByteArray} {short : Bool} (h : PrS w Db Pb p short) (hc : Below w.heap.size w w') : PrS w' Db Pb p short := by
  obtain ⟨A, c, h1, h2, h3, h4⟩ := h.ex
  have hc0 := Chg.of_below hc []
  exact ⟨⟨A, c, h1.chg hc0 (by simp), h2.below hc, h3, h4⟩, h.pr.chg hc0 (by simp), h.ne, h.few, h.all⟩

theorem toList_isEmpty (t : ByteArray) (h : ¬ t.size = 0) : t.toList.isEmpty = false := by
  rw [ByteArray.toList_eq]
  cases hl : t.data.toList with
  | nil =>
    exfalso
    apply h
    have := congrArg List.length hl
    simpa using this
  | cons _ _ => rfl

set_option maxRecDepth 100000 in
set_option maxHeartbeats 4000000 in
theorem next_any (Db Pb : Nat) (p : List ByteArray) (short : Bool) (w : World) (h : PrS w Db Pb p short) :
    Calls Tryz.prog 108 #[.pointer (some ⟨Pb, 0, none⟩)] w fun e w' => e = .returned (.string (p.getLastD ByteArray.empty)) ∧ Chg [Db, Pb] w w' ∧ PrS w' Db Pb p.dropLast (short || p.isEmpty) := by
  obtain ⟨A, c, hD, hS, hc, hA⟩ := h.ex
  have hP := h.pr
  have c0 := hP.cell 0
  have c1 := hP.cell 1
  simp only [List.getElem?_toArray, List.getElem?_cons_zero, List.getElem?_cons_succ] at c0 c1
  have hl := hP.lt
  have HPOP := Lib.hid (pop_any Db A c p w hD hS hc h.few)
  have HH := Lib.hid h
  have HD := Lib.hid hD
  have HS := Lib.hid hS
  have HC := Lib.hid hc
  have HA := Lib.hid hA
  have hsh : p.isEmpty = false → ¬ (p.getLastD ByteArray.empty).size = 0 := fun he => by
    have hne : p ≠ [] := by intro e; rw [e] at he; cases he
    have hm : p.getLastD ByteArray.empty ∈ p := by
      rw [List.getLastD_eq_getLast?, List.getLast?_eq_some_getLast hne]
      exact List.getLast_mem hne
    have := h.all
    simp only [allD, List.all_eq_true] at this
    rw [isD_16 (this _ hm)]; decide
  have hse : p.isEmpty = true → p.getLastD ByteArray.empty = ByteArray.empty := fun he => by
    rw [List.isEmpty_iff.1 he]; rfl
  have HSH := Lib.hid hsh
  have HSE := Lib.hid hse
  clear h hD hS hc hA hP hsh hse
  have fin : ∀ w1 w2 : World, Chg [Db] w w1 → Blk w1 Db 126 #[.slice A p.dropLast.length c] → w2 = w1.setCell ⟨Pb, 1, none⟩ (.bool (short || p.isEmpty)) → Chg [Db, Pb] w w2 ∧ PrS w2 Db Pb p.dropLast (short || p.isEmpty) := by
    rintro w1 w2 h1 h2 rfl
    have hne := HH.out.ne
    have k1 : Chg [Db, Pb] w w1 := (Chg.refl [Db, Pb] w).trans h1 (fun j hj => .inl (by rw [List.mem_singleton] at hj; simp [hj]))
    have k2 := k1.setCell (p := ⟨Pb, 1, none⟩) (.inl (by simp)) (.bool (short || p.isEmpty))
    have k3 := (HH.out.pr.chg h1 (by simpa using Ne.symm hne)).set 1 (.bool (short || p.isEmpty))
    simp at k3
    refine ⟨k2, ⟨A, c, h2.far (p := ⟨Pb, 1, none⟩) hne _, ?_, ?_, HA.out⟩, k3, hne, ?_, ?_⟩
    · have := (HS.out.chg k2 HA.out).take (p.length - 1)
      rw [← List.dropLast_eq_take] at this
      exact this
    · have := HC.out; rw [List.length_dropLast]; omega
    · have := HH.out.few; rw [List.length_dropLast]; omega
    · rw [List.dropLast_eq_take]; exact allD_take HH.out.all _
  have HFIN := Lib.hid fin
  clear fin
  have hPD : Pb ∉ [Db] := by simpa using Ne.symm HH.out.ne
  obtain ⟨x, hx⟩ : ∃ x, p.getLastD ByteArray.empty = x := ⟨_, rfl⟩
  rw [hx] at HPOP HSH HSE ⊢
  clear hx
  generalize p.isEmpty = v at HFIN HSH HSE ⊢
  go_enter Tryz.func108, Tryz.ntmps108
  go_wp2_with fail
  refine HPOP.out.mono ?_
  rintro e w1 ⟨rfl, hc1, hd1⟩
  have hP1 := HH.out.pr.chg hc1 hPD
  have c0' := hP1.cell 0
  have c1' := hP1.cell 1
  simp only [List.getElem?_toArray, List.getElem?_cons_zero, List.getElem?_cons_succ] at c0' c1'
  have f1' := hP1.frozen 1
  have hl' := hP1.lt
  have HF := Lib.hid (HFIN.out w1 _ hc1 hd1 rfl)
  clear hc1 hd1 hP1 c0 c1 hl
  cases short with
  | true =>
    simp only [Bool.true_or] at HF ⊢
    go_wp2
    go_ret
    exact ⟨rfl, HF.out.1, HF.out.2⟩
  | false =>
    simp only [Bool.false_or] at HF ⊢
    cases v with
    | true =>
      have hx := HSE.out rfl
      subst hx
      go_wp2
      go_ret
      exact ⟨rfl, HF.out.1, HF.out.2⟩
    | false =>
      have hx := toList_isEmpty x (HSH.out rfl)
      go_wp2
      go_ret
      exact ⟨rfl, HF.out.1, HF.out.2⟩

set_option maxHeartbeats 4000000 in
theorem done_any (Db Pb : Nat) (p : List ByteArray) (short : Bool) (w : World) (h : PrS w Db Pb p short) :
    Calls Tryz.prog 110 #[.pointer (some ⟨Pb, 0, none⟩)] w fun e w' => e = .returned (.bool (!short && decide (p.length = 0))) ∧ w = w' := by
  obtain ⟨A, c, hD, -, -, -⟩ := h.ex
  have hP := h.pr
  have c0 := hP.cell 0
  have c1 := hP.cell 1
  have d0 := hD.cell 0
  simp only [List.getElem?_toArray, List.getElem?_cons_zero, List.getElem?_cons_succ] at c0 c1 d0
  have hl := hP.lt
  have hl2 := hD.lt
  clear h hD hP
  cases short
  all_goals
    go_enter Tryz.func110, Tryz.ntmps110
    go_wp2
    go_ret
    refine ⟨ret_bool ?_, rfl⟩
    by_cases h0 : p.length = 0 <;> simp [h0]
    try omega
end

section
open Go.RowKit

theorem upv_size (n i : Nat) (s : ByteArray) (p : List ByteArray) (hs : s.size ≤ 200) : (upv n i s p).size ≤ 200 := by
  by_cases h : 2 ≤ n
  · by_cases hi : i < hf n
    · rw [upv_lt n i s p h hi, nd_size]; omega
    · rw [upv_ge n i s p h hi, nd_size]; omega
  · rw [upv_one n i s p h]; exact hs
theorem getLastD_size (p : List ByteArray) (h : allD p = true) : (p.getLastD ByteArray.empty).size ≤ 200 := by
  by_cases hne : p = []
  · subst hne; decide
  · have hm : p.getLastD ByteArray.empty ∈ p := by
      rw [List.getLastD_eq_getLast?, List.getLast?_eq_some_getLast hne]
      exact List.getLast_mem hne
    simp only [allD, List.all_eq_true] at h
    rw [isD_16 (h _ hm)]; decide
/-- What is left of a list after k more digests were taken off its end. -/
def rem (p : List ByteArray) (k : Nat) : List ByteArray := p.take (p.length - k)
theorem rem_succ (p : List ByteArray) (k : Nat) : rem p.dropLast k = rem p (1 + k) := by
  unfold rem
  rw [List.length_dropLast, List.dropLast_eq_take, List.take_take]
  congr 1; omega
theorem sh_succ (p : List ByteArray) (short : Bool) (k : Nat) : ((short || p.isEmpty) || decide (p.dropLast.length < k)) = (short || decide (p.length < 1 + k)) := by
  rw [List.length_dropLast, Bool.or_assoc]
  congr 1
  cases p with
  | nil => simp; omega
  | cons x l => simp only [List.isEmpty_cons, Bool.false_or, List.length_cons]; apply decide_eq_decide.2; omega

theorem PrS.zero {w : World} {Db Pb : Nat} {p : List ByteArray} {short : Bool} (h : PrS w Db Pb p short) : PrS w Db Pb (rem p 0) (short || decide (p.length < 0)) := by
  have e : rem p 0 = p := by unfold rem; simp
  rw [e]; simpa using h

set_option maxRecDepth 100000 in
set_option maxHeartbeats 16000000 in
theorem checkc_any (w0 : World) (hT : Tabs w0) (Lb Vb Ub Db Pb : Nat) (s : ByteArray) (hs : s.size ≤ 200) (hD : w0.heap.size ≤ Db) (hP : w0.heap.size ≤ Pb) (hL : Lb ∉ [Db, Pb]) (hV : Vb ∉ [Db, Pb]) (hU : Ub ∉ [Db, Pb]) (m : Nat) :
    ∀ (n i : Nat) (p : List ByteArray) (short : Bool) (w : World), n ≤ m → 1 ≤ n → n ≤ 1000000 → i < n → Below w0.heap.size w0 w → PrS w Db Pb p short →
      w.cell? ⟨Lb, 0, none⟩ = some (.string s) → w.cell? ⟨Vb, 0, none⟩ = some (.pointer (some ⟨Pb, 0, none⟩)) →
      w.cell? ⟨Ub, 0, none⟩ = some (.func (.func 107) #[] #[.pointer (some ⟨Lb, 0, none⟩), .pointer (some ⟨Vb, 0, none⟩), .pointer (some ⟨Ub, 0, none⟩)]) →
      Calls Tryz.prog 107 #[.int .i64 n, .int .i64 i, .pointer (some ⟨Lb, 0, none⟩), .pointer (some ⟨Vb, 0, none⟩), .pointer (some ⟨Ub, 0, none⟩)] w fun e w' =>
        e = .returned (.string (upv n i s p)) ∧ Chg [Db, Pb] w w' ∧ PrS w' Db Pb (rem p (plen n i)) (short || decide (p.length < plen n i)) := by
  induction m with
  | zero => intro n i p short w h1 h2; omega
  | succ m ih =>
    intro n i p short w hn h1 hbig hi hb hpr hcl hcv hcu
    by_cases h2 : 2 ≤ n
    · have hbase : ∀ w', Chg [Db, Pb] w w' → Below w0.heap.size w0 w' := fun w' hc => hb.trans (hc.below (fun k hk => by
        simp only [List.mem_cons, List.not_mem_nil, or_false] at hk
        rcases hk with rfl | rfl <;> assumption) hb.size)
      have k1 := hf_lt n h2
      have k2 := hf_pos n
      obtain ⟨x, hx⟩ : ∃ x, p.getLastD ByteArray.empty = x := ⟨_, rfl⟩
      have hxs : x.size ≤ 200 := by rw [← hx]; exact getLastD_size p hpr.all
      have HN := Lib.hid (next_any Db Pb p short w.drew (hpr.chg (Below.drew (Below.refl _ _))))
      rw [hx] at HN
      have hlast : upv n i s p = if i < hf n then nd (upv (hf n) i s p.dropLast) x else nd x (upv (n - hf n) (i - hf n) s p.dropLast) := by
        split
        · next h => rw [upv_lt n i s p h2 h, hx]
        · next h => rw [upv_ge n i s p h2 h, hx]
      have hpl : plen n i = 1 + if i < hf n then plen (hf n) i else plen (n - hf n) (i - hf n) := by
        split
        · next h => rw [plen_lt n i h2 h]
        · next h => rw [plen_ge n i h2 h]
      rw [hlast, hpl]
      clear hlast hpl hx
      obtain ⟨k, hk⟩ : ∃ k, hf n = k := ⟨_, rfl⟩
      rw [hk] at k1 k2 ⊢
      have HH := Lib.hid (fun W => (half_any n hbig W).mono fun _ _ ⟨he, hw⟩ => (⟨he, hw.symm⟩ : _ ∧ _ = W))
      rw [hk] at HH
      have HIH := Lib.hid ih
      have HC : Hid (∀ w', Chg [Db, Pb] w w' → Below w0.heap.size w0 w' ∧ w'.cell? ⟨Lb, 0, none⟩ = some (.string s) ∧ w'.cell? ⟨Vb, 0, none⟩ = some (.pointer (some ⟨Pb, 0, none⟩)) ∧ w'.cell? ⟨Ub, 0, none⟩ = some (.func (.func 107) #[] #[.pointer (some ⟨Lb, 0, none⟩), .pointer (some ⟨Vb, 0, none⟩), .pointer (some ⟨Ub, 0, none⟩)])) :=
        Lib.hid (fun w' hc => ⟨hbase w' hc, hc.cell hL hcl, hc.cell hV hcv, hc.cell hU hcu⟩)
      have HND := Lib.hid (fun (a b : ByteArray) (ha : a.size ≤ 200) (hb : b.size ≤ 200) (W : World) (hW : Below w0.heap.size w0 W) => node_any a b ha hb W (hT.below hW))
      have hl := lt_of_cell hcv
      clear hpr hbase hb ih hcl hk
      have hn1 : ((n : Int) == 1) = false := by simp; omega
      by_cases hik : i < k
      · rw [if_pos hik, if_pos hik]
        go_enter Tryz.func107, Tryz.ntmps107
        go_wp2_with fail
        refine wp_region_still_tail 3 (by kernel_rfl) (by kernel_rfl) ?_
        simp only [List.take_succ_cons, List.take_zero, List.drop_succ_cons, List.drop_zero]
        change wpStill _ _ (World.drew _) _ _ _
        still_step
        still_call (HH.out _)
        still_step
        refine wpStill_nil ?_
        change wpList _ _ _ _ _ (World.drew _)
        go_wp2_with fail
        refine HN.out.mono ?_
        rintro e w1 ⟨rfl, hc1, hp1⟩
        have hc1' : Chg [Db, Pb] w w1 := (Chg.refl [Db, Pb] w).drew.trans hc1 (fun j hj => .inl hj)
        obtain ⟨b1, cl1, cv1, cu1⟩ := HC.out w1 hc1'
        have HI1 := Lib.hid (HIH.out k i p.dropLast (short || p.isEmpty) w1 (by omega) k2 (by omega) hik b1 hp1 cl1 cv1 cu1)
        have HC1 := Lib.hid hc1'
        have hu1 := lt_of_cell cu1
        clear hc1 hp1 hc1' b1 cl1 cv1
        go_wp2_with fail
        refine HI1.out.mono ?_
        rintro e w2 ⟨rfl, hc2, hp2⟩
        have HC2 := Lib.hid (HC1.out.trans hc2 (fun j hj => .inl hj))
        have HP2 := Lib.hid hp2
        clear hc2 hp2
        have HN2 := Lib.hid (HND.out (upv k i s p.dropLast) x (upv_size _ _ _ _ hs) hxs w2 (HC.out w2 HC2.out).1)
        go_wp2_with fail
        refine HN2.out.mono ?_
        rintro e w3 ⟨rfl, hb3⟩
        have HB3 := Lib.hid hb3
        clear hb3
        go_wp2
        go_ret
        refine ⟨rfl, HC2.out.trans (Chg.of_below HB3.out []) (by simp), ?_⟩
        have := HP2.out.chg HB3.out
        rw [rem_succ, sh_succ] at this
        exact this
      · rw [if_neg hik, if_neg hik]
        have hni : ¬ (i : Int) < (k : Int) := by omega
        have e1 : (n : Int) - (k : Int) = ((n - k : Nat) : Int) := by omega
        have e2 : (i : Int) - (k : Int) = ((i - k : Nat) : Int) := by omega
        have HE1 := Lib.hid e1
        have HE2 := Lib.hid e2
        clear e1 e2
        go_enter Tryz.func107, Tryz.ntmps107
        go_wp2_with fail
        refine wp_region_still_tail 3 (by kernel_rfl) (by kernel_rfl) ?_
        simp only [List.take_succ_cons, List.take_zero, List.drop_succ_cons, List.drop_zero]
        change wpStill _ _ (World.drew _) _ _ _
        still_step
        still_call (HH.out _)
        still_step
        refine wpStill_nil ?_
        change wpList _ _ _ _ _ (World.drew _)
        go_wp2_with fail
        refine HN.out.mono ?_
        rintro e w1 ⟨rfl, hc1, hp1⟩
        have hc1' : Chg [Db, Pb] w w1 := (Chg.refl [Db, Pb] w).drew.trans hc1 (fun j hj => .inl hj)
        obtain ⟨b1, cl1, cv1, cu1⟩ := HC.out w1 hc1'
        have HI1 := Lib.hid (HIH.out (n - k) (i - k) p.dropLast (short || p.isEmpty) w1 (by omega) (by omega) (by omega) (by omega) b1 hp1 cl1 cv1 cu1)
        have HC1 := Lib.hid hc1'
        have hu1 := lt_of_cell cu1
        clear hc1 hp1 hc1' b1 cl1 cv1
        go_wp2_with fail
        rw [HE1.out, HE2.out]
        refine HI1.out.mono ?_
        rintro e w2 ⟨rfl, hc2, hp2⟩
        have HC2 := Lib.hid (HC1.out.trans hc2 (fun j hj => .inl hj))
        have HP2 := Lib.hid hp2
        clear hc2 hp2
        have HN2 := Lib.hid (HND.out x (upv (n - k) (i - k) s p.dropLast) hxs (upv_size _ _ _ _ hs) w2 (HC.out w2 HC2.out).1)
        go_wp2_with fail
        refine HN2.out.mono ?_
        rintro e w3 ⟨rfl, hb3⟩
        have HB3 := Lib.hid hb3
        clear hb3
        go_wp2
        go_ret
        refine ⟨rfl, HC2.out.trans (Chg.of_below HB3.out []) (by simp), ?_⟩
        have := HP2.out.chg HB3.out
        rw [rem_succ, sh_succ] at this
        exact this
    · obtain rfl : n = 1 := by omega
      rw [upv_one 1 i s p (by omega), plen_one 1 i (by omega)]
      have HP := Lib.hid hpr.zero
      clear hpr ih
      have hl := lt_of_cell hcl
      go_enter Tryz.func107, Tryz.ntmps107
      go_wp2
      go_ret
      exact ⟨rfl, Chg.refl _ _, HP.out⟩
end

section
open Go.RowKit

theorem clone_any (A : Option Addr) (c : Nat) (l : List ByteArray) (w : World) (hS : Strs w A l) (hbig : l.length ≤ 1000000) :
    Calls Tryz.prog 106 #[.slice A l.length c] w fun e w' => ∃ A' c', e = .returned (.slice A' l.length c') ∧ Strs w' A' l ∧ l.length ≤ c' ∧ (∀ a, A' = some a → w.heap.size ≤ a.block ∧ a.block < w'.heap.size) ∧ Below w.heap.size w w' := by
  have own : ∀ (w' : World) (v : Value), w'.ownsRow w.heap.size 9 1 v l.length (l.map Value.string) → Below w.heap.size w w' → ∃ A' c', (Ending.returned v : Ending) = .returned (.slice A' l.length c') ∧ Strs w' A' l ∧ l.length ≤ c' ∧ (∀ a, A' = some a → w.heap.size ≤ a.block ∧ a.block < w'.heap.size) ∧ Below w.heap.size w w' := fun w' v ho hb => by
    obtain ⟨A', c', rfl, h1, -, h3⟩ := Rd.of_own ho
    refine ⟨A', c', rfl, h3, h1, fun a ha => ?_, hb⟩
    subst ha
    exact ho.lt a.block rfl
  by_cases h0 : l.length = 0
  · obtain rfl : l = [] := List.eq_nil_of_length_eq_zero h0
    cases A with
    | none =>
      refine (Tryz.slices_Clone_string_nil 0 c w).mono ?_
      rintro e w' ⟨rfl, rfl⟩
      exact ⟨none, 0, rfl, ⟨rfl, fun h => by simp at h⟩, Nat.le_refl _, fun a ha => (by cases ha), Below.refl _ _⟩
    | some a =>
      refine (Tryz.slices_Clone_string_zero a c w).mono ?_
      rintro e w' ⟨v, rfl, ho, -, hb⟩
      exact own w' v ho hb
  · obtain ⟨b, off, rfl, hc⟩ := hS.2 (by omega)
    refine (Tryz.slices_Clone_string b off l.length c l w (Nat.le_refl _) (by omega) (fun j hj => ?_)).mono ?_
    · have := hc j (.string l[j]) (by simp [hj])
      rw [this]
      simp [List.getD, hj]
    · rintro e w' ⟨v, rfl, ho, -, hb⟩
      rw [List.take_length] at ho
      exact own w' v ho hb

def chkB (root : ByteArray) (n i : Int) (leaf : ByteArray) (p : List ByteArray) : Bool :=
  decide (n ≤ 1000000 ∧ 0 ≤ i ∧ i < n) && allD p && isD leaf && (decide (upv n.toNat i.toNat leaf p = root) && decide (p.length = plen n.toNat i.toNat))

theorem chk_done (p : List ByteArray) (k : Nat) : (!(false || decide (p.length < k)) && decide ((rem p k).length = 0)) = decide (p.length = k) := by
  unfold rem
  rw [List.length_take]
  by_cases h1 : p.length < k
  · have : ¬ p.length = k := by omega
    simp [h1, this]
  · by_cases h2 : p.length = k
    · simp [h2]
    · have : ¬ min (p.length - k) p.length = 0 := by omega
      simp [h1, h2, this]; omega

set_option maxRecDepth 100000 in
set_option maxHeartbeats 16000000 in
theorem tcheck_any (root : ByteArray) (n i : Int) (leaf : ByteArray) (A : Option Addr) (c : Nat) (p : List ByteArray) (w : World) (hT : Tabs w) (hS : Strs w A p) (hbig : p.length ≤ 1000000) (hleaf : leaf.size ≤ 1000000000) (hsz : ∀ s, s ∈ p → s.size ≤ 1000000000) :
    Calls Tryz.prog 65 #[.string root, .int .i64 n, .int .i64 i, .string leaf, .slice A p.length c] w fun e w' => e = .returned (.bool (chkB root n i leaf p)) ∧ Below w.heap.size w w' := by
  obtain ⟨w1, hw1⟩ : ∃ w1, w.alloc (.cells #[.string leaf] 9) = w1 := ⟨_, rfl⟩
  have HB1 : Hid (Below w.heap.size w w1) := Lib.hid (by rw [← hw1]; exact below_alloc (Below.refl _ _) _)
  have HC1 : Hid (Blk w1 w.heap.size 9 #[.string leaf]) := Lib.hid (by rw [← hw1]; exact Blk.new _ _ _ _ rfl)
  have HCL := Lib.hid (clone_any A c p w1 (hS.below HB1.out) hbig)
  have HW1 := Lib.hid hw1
  have HT := Lib.hid (fun W (hW : Below w.heap.size w W) => hT.below hW)
  have HSZ := Lib.hid hsz
  have HHS : Hid (w1.heap.size = w.heap.size + 1) := Lib.hid (by rw [← hw1]; simp)
  have hlw1 : w.heap.size < w1.heap.size := by rw [HHS.out]; omega
  clear hw1 hS hT hsz
  go_enter Tryz.func65, Tryz.ntmps65
  go_wp2_with fail
  rw [HW1.out]
  refine HCL.out.mono ?_
  rintro e w2 ⟨A', c', rfl, hS2, hc', hA2, hb2⟩
  have HB2 := Lib.hid (below_trans HB1.out hb2)
  have HL2 := Lib.hid (HC1.out.chg (Chg.of_below hb2 []) (by simp))
  have HS2 := Lib.hid hS2
  have HCC := Lib.hid hc'
  have HA2 := Lib.hid hA2
  have hl2 : w.heap.size < w2.heap.size := Nat.lt_of_lt_of_le hlw1 hb2.size
  have HL21 : Hid (w1.heap.size ≤ w2.heap.size) := Lib.hid hb2.size
  clear hS2 hc' hA2 hb2 HCL
  obtain ⟨w3, hw3⟩ : ∃ w3, w2.alloc (.cells #[.slice A' p.length c'] 126) = w3 := ⟨_, rfl⟩
  have HB3 : Hid (Below w.heap.size w w3) := Lib.hid (by rw [← hw3]; exact below_alloc HB2.out _)
  have HD3 : Hid (Blk w3 w2.heap.size 126 #[.slice A' p.length c']) := Lib.hid (by rw [← hw3]; exact Blk.new _ _ _ _ rfl)
  have HS3 : Hid (Strs w3 A' p) := Lib.hid (by rw [← hw3]; exact HS2.out.below (below_alloc (Below.refl _ _) _))
  have HL3 : Hid (Blk w3 w.heap.size 9 #[.string leaf]) := Lib.hid (by rw [← hw3]; exact HL2.out.alloc _)
  have HW3 := Lib.hid hw3
  have hl3 : w2.heap.size < w3.heap.size := by rw [← hw3]; simp
  have d3 := HD3.out.cell 0
  have l3 := HL3.out.cell 0
  simp only [List.getElem?_toArray, List.getElem?_cons_zero] at d3 l3
  clear hw3
  by_cases hni : n ≤ 1000000 ∧ 0 ≤ i ∧ i < n
  · obtain ⟨g1, g2, g3⟩ := hni
    obtain ⟨nn, rfl⟩ : ∃ nn : Nat, n = nn := ⟨n.toNat, by omega⟩
    obtain ⟨ii, rfl⟩ : ∃ ii : Nat, i = ii := ⟨i.toNat, by omega⟩
    have hchk : chkB root nn ii leaf p = (allD p && isD leaf && (decide (upv nn ii leaf p = root) && decide (p.length = plen nn ii))) := by
      unfold chkB
      have : ((nn : Int) ≤ 1000000 ∧ (0 : Int) ≤ ii ∧ (ii : Int) < nn) := ⟨g1, g2, g3⟩
      rw [decide_eq_true this, Bool.true_and, Int.toNat_natCast, Int.toNat_natCast]
    have HCHK := Lib.hid hchk
    have HPR := Lib.hid (proper_any A' c' p w3 hbig HS3.out HSZ.out)
    clear hchk
    go_wp2_with fail
    rw [HW3.out]
    refine HPR.out.mono ?_
    rintro e w4 ⟨rfl, hb4⟩
    have HB4 := Lib.hid (below_trans HB3.out hb4)
    have HD4 := Lib.hid (HD3.out.chg (Chg.of_below hb4 []) (by simp))
    have HL4 := Lib.hid (HL3.out.chg (Chg.of_below hb4 []) (by simp))
    have HS4 := Lib.hid (HS3.out.below hb4)
    have l4 := HL4.out.cell 0
    simp only [List.getElem?_toArray, List.getElem?_cons_zero] at l4
    have ll4 := HL4.out.lt
    clear d3 l3 hb4
    cases hall : allD p with
    | false =>
      rw [hall] at HCHK
      have HH := Lib.hid hall
      clear hall
      go_wp2
      go_ret
      exact ⟨ret_bool (by rw [HCHK.out]; rfl), HB4.out⟩
    | true =>
    have HALL := Lib.hid hall
    rw [hall] at HCHK
    have HIS := Lib.hid (is_any leaf w4 hleaf)
    clear hall
    go_wp2_with fail
    refine HIS.out.mono ?_
    rintro e w5 ⟨rfl, hb5⟩
    have HB5 := Lib.hid (below_trans HB4.out hb5)
    have HD5 := Lib.hid (HD4.out.chg (Chg.of_below hb5 []) (by simp))
    have HL5 := Lib.hid (HL4.out.chg (Chg.of_below hb5 []) (by simp))
    have HS5 := Lib.hid (HS4.out.below hb5)
    have hl5 := HD5.out.lt
    clear l4 hb5
    cases hd : isD leaf with
    | false =>
      rw [hd] at HCHK
      clear hd
      go_wp2
      go_ret
      exact ⟨ret_bool (by rw [HCHK.out]; rfl), HB5.out⟩
    | true =>
    have hl16 := isD_16 hd
    rw [hd] at HCHK
    clear hd
    go_wp2_with fail
    obtain ⟨w6, hw6⟩ : ∃ w6, (((w5.alloc (.cells #[.pointer (some ⟨w2.heap.size, 0, none⟩), .bool false] 140)).alloc (.cells #[.pointer (some ⟨w5.heap.size, 0, none⟩)] 137)).alloc
        (.cells #[.func (.func 107) #[] #[.pointer (some ⟨w.heap.size, 0, none⟩), .pointer (some ⟨w5.heap.size + 1, 0, none⟩), .pointer (some ⟨w5.heap.size + 1 + 1, 0, none⟩)]] 141)) = w6 := ⟨_, rfl⟩
    have hb6 : Below w5.heap.size w5 w6 := by rw [← hw6]; exact below_alloc (below_alloc (below_alloc (Below.refl _ _) _) _) _
    have HB6 := Lib.hid (below_trans HB5.out hb6)
    have hc6 := Chg.of_below hb6 []
    have hP6 : Blk w6 w5.heap.size 140 #[.pointer (some ⟨w2.heap.size, 0, none⟩), .bool false] := by
      rw [← hw6]; exact ((Blk.new w5 _ _ _ rfl).alloc _).alloc _
    have hV6 : Blk w6 (w5.heap.size + 1) 137 #[.pointer (some ⟨w5.heap.size, 0, none⟩)] := by
      rw [← hw6]; exact (Blk.new _ _ _ _ (by simp)).alloc _
    have hU6 : Blk w6 (w5.heap.size + 1 + 1) 141 #[.func (.func 107) #[] #[.pointer (some ⟨w.heap.size, 0, none⟩), .pointer (some ⟨w5.heap.size + 1, 0, none⟩), .pointer (some ⟨w5.heap.size + 1 + 1, 0, none⟩)]] := by
      rw [← hw6]; exact Blk.new _ _ _ _ (by simp)
    have hl52 : w2.heap.size < w5.heap.size := hl5
    have hpr6 : PrS w6 w2.heap.size w5.heap.size p false := by
      refine ⟨⟨A', c', HD5.out.chg hc6 (by simp), HS5.out.below hb6, HCC.out, fun a ha hm => ?_⟩, hP6, by omega, hbig, HALL.out⟩
      have := HA2.out a ha
      simp only [List.mem_cons, List.not_mem_nil, or_false] at hm
      omega
    have HCALL := Lib.hid (checkc_any w (HT.out w (Below.refl _ _)) w.heap.size (w5.heap.size + 1) (w5.heap.size + 1 + 1) w2.heap.size w5.heap.size leaf (by omega) (by omega) (by omega)
      (by simp only [List.mem_cons, List.not_mem_nil, or_false]; omega) (by simp only [List.mem_cons, List.not_mem_nil, or_false]; omega) (by simp only [List.mem_cons, List.not_mem_nil, or_false]; omega)
      nn nn ii p false w6 (Nat.le_refl _) (by omega) (by omega) (by omega) HB6.out hpr6 ((HL5.out.chg hc6 (by simp)).cell 0) (hV6.cell 0) (hU6.cell 0))
    have HV6 := Lib.hid hV6
    have HNV : Hid (w5.heap.size + 1 ∉ [w2.heap.size, w5.heap.size]) := Lib.hid (by simp only [List.mem_cons, List.not_mem_nil, or_false]; omega)
    have HFB : Hid (∀ w', Chg [w2.heap.size, w5.heap.size] w6 w' → Below w.heap.size w w') := Lib.hid (fun w' hc => HB6.out.trans (hc.below (fun k hk => by
      simp only [List.mem_cons, List.not_mem_nil, or_false] at hk
      rcases hk with rfl | rfl <;> omega) HB6.out.size))
    have HW6 := Lib.hid hw6
    clear hb6 hc6 hP6 hV6 hU6 hpr6 hw6
    rw [HW6.out]
    refine HCALL.out.mono ?_
    rintro e w7 ⟨rfl, hc7, hp7⟩
    have HV7 := Lib.hid (HV6.out.chg hc7 HNV.out)
    have v7 := HV7.out.cell 0
    simp only [List.getElem?_toArray, List.getElem?_cons_zero] at v7
    have lv7 := HV7.out.lt
    have HDN := Lib.hid (done_any w2.heap.size w5.heap.size _ _ w7 hp7)
    rw [chk_done] at HDN
    have HB7 := Lib.hid (HFB.out w7 hc7)
    clear hc7 hp7 HCALL
    obtain ⟨b, hb⟩ : ∃ b, decide (upv nn ii leaf p = root) = b := ⟨_, rfl⟩
    have hbe : ((upv nn ii leaf p).toList == root.toList) = b := by rw [beq_bytes]; exact hb
    rw [hb] at HCHK
    clear hb
    generalize upv nn ii leaf p = u at *
    cases b with
    | false =>
      go_wp2
      go_ret
      exact ⟨ret_bool (by rw [HCHK.out]; rfl), HB7.out⟩
    | true =>
      go_wp2_with fail
      refine HDN.out.mono ?_
      rintro e _ ⟨rfl, rfl⟩
      go_wp2
      go_ret
      exact ⟨ret_bool (by rw [HCHK.out]; simp), HB7.out⟩
  · have hchk : chkB root n i leaf p = false := by unfold chkB; simp only [decide_eq_false hni, Bool.false_and]
    have HCHK := Lib.hid hchk
    clear hchk
    have hor : 1000000 < n ∨ (n ≤ 1000000 ∧ i < 0) ∨ (n ≤ 1000000 ∧ 0 ≤ i ∧ n ≤ i) := by omega
    clear hni
    rcases hor with g1 | ⟨g1, g2⟩ | ⟨g1, g2, g3⟩
    all_goals
      go_wp2_with fail
      rw [HW3.out]
      go_wp2
      go_ret
      exact ⟨ret_bool HCHK.out.symm, HB3.out⟩
end

section
open Go.RowKit

set_option maxHeartbeats 2000000 in
theorem rmix (x : UInt64) (w : World) : Calls Tryz.prog 99 #[.int .u64 x.toNat] w fun e w' => e = .returned (.int .u64 (mix64 x).toNat) ∧ w = w' := by
  have hx := x.toNat_lt
  go_enter Tryz.func99, Tryz.ntmps99
  go_wp2
  go_ret
  exact ⟨ret_int (mix_walk x), rfl⟩

theorem or_add (a : UInt64) (c : UInt8) : (((a <<< 8).toNat : Int) + (c.toNat : Int)) = ((a <<< 8 ||| c.toUInt64).toNat : Int) := by
  have hc := c.toNat_lt
  have e : (8 : UInt64).toNat % 64 = 8 := rfl
  have h1 : (a <<< 8).toNat = (a.toNat % 2 ^ 56) <<< 8 := by
    rw [UInt64.toNat_shiftLeft, e, Nat.shiftLeft_eq, Nat.shiftLeft_eq]
    omega
  rw [UInt64.toNat_or, UInt8.toNat_toUInt64, h1, ← Nat.shiftLeft_add_eq_or_of_lt (by simpa using hc)]
  omega
theorem or_zero (a : UInt64) : (a <<< 8 ||| (0 : UInt8).toUInt64) = a <<< 8 := by
  have e : (0 : UInt8).toUInt64 = 0 := rfl
  rw [e, UInt64.or_zero]
theorem pblk_at (t : ByteArray) (k j : Nat) (hj : j < 8) : (pblk t k)[j]? = some (if h : 8 * k + j < t.size then t[8 * k + j] else 0) := by
  unfold pblk
  have hl : (t.data.toList.drop (8 * k)).length = t.size - 8 * k := by rw [List.length_drop]; rfl
  by_cases h : 8 * k + j < t.size
  · rw [dif_pos h, List.getElem?_append_left (by rw [List.length_take, hl]; omega), List.getElem?_take, if_pos hj, List.getElem?_drop]
    exact List.getElem?_eq_getElem (by simpa using h)
  · rw [dif_neg h, List.getElem?_append_right (by rw [List.length_take, hl]; omega), List.getElem?_replicate_of_lt (by rw [List.length_take, hl]; omega)]
theorem ext1 (d : Nat) (h : d < 16) : hexs.extract d (d + 1) = ⟨#[hexd d]⟩ := by
  match d, h with
  | 0, _ => rfl
  | 1, _ => rfl
  | 2, _ => rfl
  | 3, _ => rfl
  | 4, _ => rfl
  | 5, _ => rfl
  | 6, _ => rfl
  | 7, _ => rfl
  | 8, _ => rfl
  | 9, _ => rfl
  | 10, _ => rfl
  | 11, _ => rfl
  | 12, _ => rfl
  | 13, _ => rfl
  | 14, _ => rfl
  | 15, _ => rfl
  | d + 16, h => omega
theorem cons_ba (c : UInt8) (l : List UInt8) : (⟨#[c]⟩ : ByteArray) ++ ⟨l.toArray⟩ = ⟨(c :: l).toArray⟩ := by
  apply ByteArray.ext
  rw [ByteArray.data_append]
  apply Array.toList_inj.1
  simp

set_option maxRecDepth 100000 in
set_option maxHeartbeats 8000000 in
theorem rsum (t : ByteArray) (ht : t.size ≤ 1000000000) (w : World) :
    Calls Tryz.prog 57 #[.string t] w fun e w' => e = .returned (.string (dg t)) ∧ w = w' := by
  obtain ⟨s0, hs0⟩ : ∃ s, 1442695040888963407 ^^^ UInt64.ofNat t.size = s := ⟨_, rfl⟩
  have e0 : bits .xor .u64 1442695040888963407 (t.size : Int) = (s0.toNat : Int) := by
    have h1 := bits_xor_u64 1442695040888963407 (UInt64.ofNat t.size)
    have h2 : ((UInt64.ofNat t.size).toNat : Int) = (t.size : Int) := by
      rw [UInt64.toNat_ofNat']; omega
    rw [h2, hs0] at h1
    exact h1
  have HS0 := Lib.hid hs0
  clear hs0
  go_enter Tryz.func57, Tryz.ntmps57
  go_wp2_with fail
  clear e0
  go_loop [3, 4] (fun u3 u4 => ∃ k : Nat, k ≤ t.size / 8 + 1 ∧ u4 = .int .i64 (8 * k : Nat) ∧ u3 = .int .u64 (absorb s0 t k).toNat) (fun _ u4 => t.size + 8 - (intOf u4).toNat)
  case atStart => exact ⟨0, Nat.zero_le _, rfl, rfl⟩
  case round =>
  obtain ⟨k, hk, rfl, rfl⟩ := hrel
  obtain ⟨st, hst⟩ : ∃ st, absorb s0 t k = st := ⟨_, rfl⟩
  rw [hst]
  have HST := Lib.hid hst
  clear hst
  by_cases hlt : 8 * k ≤ t.size
  · obtain ⟨q, hq⟩ : ∃ q, 8 * k = q := ⟨_, rfl⟩
    have hq1 : q ≤ t.size := by omega
    rw [hq]
    have HQ := Lib.hid hq
    clear hq hlt
    go_wp2_with fail
    go_loop [5, 6] (fun u5 u6 => ∃ j : Nat, j ≤ 8 ∧ u6 = .int .i64 (q + j : Nat) ∧ u5 = .int .u64 (blk64 ((pblk t k).take j)).toNat) (fun _ u6 => q + 8 - (intOf u6).toNat)
    case atStart => exact ⟨0, Nat.zero_le _, rfl, rfl⟩
    case round =>
    obtain ⟨j, hj, rfl, rfl⟩ := hrel
    obtain ⟨n, hn⟩ : ∃ n, blk64 ((pblk t k).take j) = n := ⟨_, rfl⟩
    rw [hn]
    have HN := Lib.hid hn
    clear hn
    obtain ⟨i, hi⟩ : ∃ i, q + j = i := ⟨_, rfl⟩
    rw [hi]
    have hi1 : i ≤ q + 8 := by omega
    by_cases hj8 : j < 8
    · have hi2 : i < q + 8 := by omega
      have hpa := pblk_at t k j hj8
      rw [HQ.out, hi] at hpa
      have HI := Lib.hid hi
      by_cases hin : i < t.size
      · rw [dif_pos hin] at hpa
        have hsn := take_snoc (pblk t k) j _ hpa
        have HSN := Lib.hid hsn
        have e1 : IntKind.u64.wrap ((n.toNat : Int) * 256) = ((n <<< 8).toNat : Int) := shl8_u64 n
        obtain ⟨m, hm⟩ : ∃ m, n <<< 8 = m := ⟨_, rfl⟩
        have hoa := or_add n t[i]
        rw [hm] at e1 hoa
        have hm64 := m.toNat_lt
        have hc8 := t[i].toNat_lt
        have HM := Lib.hid hm
        have HOA := Lib.hid hoa
        clear hm hpa hsn hi hoa
        go_wp2_with fail
        go_round
        case rel => exact ⟨j + 1, by omega, by rw [← HI.out]; go_num, by rw [HSN.out, blk_snoc, HN.out, HM.out, HOA.out, cast_u64]⟩
        case measure => simp [intOf]; omega
      · rw [dif_neg hin] at hpa
        have hsn := take_snoc (pblk t k) j _ hpa
        have HSN := Lib.hid hsn
        have e1 : IntKind.u64.wrap ((n.toNat : Int) * 256) = ((n <<< 8).toNat : Int) := shl8_u64 n
        obtain ⟨m, hm⟩ : ∃ m, n <<< 8 = m := ⟨_, rfl⟩
        rw [hm] at e1
        have hm64 := m.toNat_lt
        have HM := Lib.hid hm
        clear hm hpa hsn hi
        go_wp2_with fail
        go_round
        case rel => exact ⟨j + 1, by omega, by rw [← HI.out]; go_num, by rw [HSN.out, blk_snoc, HN.out, or_zero, HM.out]⟩
        case measure => simp [intOf]; omega
    · have hj88 : j = 8 := by omega
      have HE : Hid (blk64 (pblk t k) = n) := Lib.hid (by rw [← HN.out, List.take_of_length_le (by rw [pblk_len]; omega)])
      have hi8 : i = q + 8 := by omega
      subst hi8
      clear hi hj88
      go_wp2_with fail
      rw [bits_xor_u64]
      refine (rmix _ w).mono ?_
      rintro e w1 ⟨rfl, rfl⟩
      have HMX : Hid (mix64 (st ^^^ n) = absorb s0 t (k + 1)) := Lib.hid (by rw [absorb, HST.out, HE.out])
      rw [HMX.out]
      go_wp2_with fail
      go_round
      case rel => exact ⟨k + 1, by have := HQ.out; omega, by rw [← HQ.out]; go_num, rfl⟩
      case measure => simp [intOf]; omega
  · obtain rfl : k = t.size / 8 + 1 := by omega
    obtain ⟨u, hu⟩ : ∃ u, st.toNat = u := ⟨_, rfl⟩
    have hu64 : u < 18446744073709551616 := by rw [← hu]; exact st.toNat_lt
    have HD : Hid (dg t = ⟨(hexk u 16).toArray⟩) := Lib.hid (by rw [dg, dgs, HS0.out, HST.out, hu])
    rw [hu]
    clear hu
    go_wp2_with fail
    go_loop [3, 7, 8] (fun u3 u7 u8 => ∃ i : Nat, i ≤ 16 ∧ u8 = .int .i64 i ∧ u7 = .string ⟨(hexk u i).toArray⟩ ∧ u3 = .int .u64 ((u / 16 ^ i : Nat) : Int)) (fun _ _ u8 => 16 - (intOf u8).toNat)
    case atStart => exact ⟨0, Nat.zero_le _, rfl, rfl, by simp⟩
    case round =>
    obtain ⟨i, hi, rfl, rfl, rfl⟩ := hrel
    by_cases h16 : i < 16
    · obtain ⟨x, hx⟩ : ∃ x, u / 16 ^ i = x := ⟨_, rfl⟩
      have hx64 : x < 18446744073709551616 := by rw [← hx]; exact Nat.lt_of_le_of_lt (Nat.div_le_self _ _) hu64
      rw [hx]
      obtain ⟨r, hr⟩ : ∃ r, (⟨(hexk u i).toArray⟩ : ByteArray) = r := ⟨_, rfl⟩
      have hrz : r.size ≤ 16 := by rw [← hr]; show (hexk u i).length ≤ 16; rw [hexk_len]; exact hi
      rw [hr]
      obtain ⟨d, hd⟩ : ∃ d, x % 16 = d := ⟨_, rfl⟩
      have hd16 : d < 16 := by omega
      have e1 : (x : Int) % 16 = (d : Int) := by omega
      have HX := Lib.hid hx
      have HR := Lib.hid hr
      have HDD := Lib.hid hd
      clear hx hr hd
      go_wp2_with fail
      go_round
      case rel => exact ⟨i + 1, by omega, by go_num, (show Value.string (hexs.extract d (d + 1) ++ r) = _ by rw [ext1 d hd16, ← HR.out, cons_ba, hexk, HX.out, HDD.out]), by rw [Nat.pow_succ, ← Nat.div_div_eq_div_mul, HX.out]; go_num⟩
      case measure => simp [intOf]; omega
    · obtain rfl : i = 16 := by omega
      go_wp2
      go_ret
      exact ⟨by rw [HD.out]; rfl, rfl⟩
end

section
open Go.RowKit

def tens : ByteArray := ⟨#[48, 49, 50, 51, 52, 53, 54, 55, 56, 57]⟩
theorem ext10 (d : Nat) (h : d < 10) : tens.extract d (d + 1) = ⟨#[UInt8.ofNat (48 + d)]⟩ := by
  match d, h with
  | 0, _ => rfl
  | 1, _ => rfl
  | 2, _ => rfl
  | 3, _ => rfl
  | 4, _ => rfl
  | 5, _ => rfl
  | 6, _ => rfl
  | 7, _ => rfl
  | 8, _ => rfl
  | 9, _ => rfl
  | d + 10, h => omega
/-- What the loop keeps: the digits of n are those of m ahead of r; with m = 0 they are r. -/
def dgt (n m : Nat) (r : List UInt8) : Prop := (0 < m → Go.Lib.decDigits n = Go.Lib.decDigits m ++ r) ∧ (m = 0 → Go.Lib.decDigits n = r)
theorem dgt_start (n : Nat) : dgt n (n / 10) [UInt8.ofNat (48 + n % 10)] := by
  refine ⟨fun h => ?_, fun h => ?_⟩
  · rw [Go.Lib.decDigits, dif_neg (by omega)]
  · rw [Go.Lib.decDigits, dif_pos (by omega), Nat.mod_eq_of_lt (by omega)]
theorem dgt_step {n m : Nat} {r : List UInt8} (hm : 0 < m) (h : dgt n m r) : dgt n (m / 10) (UInt8.ofNat (48 + m % 10) :: r) := by
  have h1 := dgt_start m
  refine ⟨fun hp => ?_, fun hp => ?_⟩
  · rw [h.1 hm, h1.1 hp, List.append_assoc]; rfl
  · rw [h.1 hm, h1.2 hp]; rfl
theorem dgt_len {n m : Nat} {r : List UInt8} (hn : n < 18446744073709551616) (h : dgt n m r) : r.length ≤ 20 := by
  have h1 := dec_len n 19 (by have : (10 : Nat) ^ (19 + 1) = 100000000000000000000 := rfl; omega)
  rcases Nat.eq_zero_or_pos m with h0 | h0
  · rw [← h.2 h0]; exact h1
  · rw [h.1 h0, List.length_append] at h1; omega

set_option maxRecDepth 100000 in
set_option maxHeartbeats 2000000 in
theorem rdigits (n : Nat) (hn : n < 18446744073709551616) (w : World) :
    Calls Tryz.prog 130 #[.int .u64 n] w fun e w' => e = .returned (.string (dec n)) ∧ w = w' := by
  obtain ⟨d, hd⟩ : ∃ d, n % 10 = d := ⟨_, rfl⟩
  have e1 : (n : Int) % 10 = (d : Int) := by omega
  have hd10 : d < 10 := by omega
  have HS := Lib.hid (dgt_start n)
  rw [hd] at HS
  obtain ⟨m, hm⟩ : ∃ m, n / 10 = m := ⟨_, rfl⟩
  have e2 : (n : Int) / 10 = (m : Int) := by omega
  rw [hm] at HS
  have hm64 : m < 18446744073709551616 := by omega
  clear hd hm
  go_enter Tryz.func130, Tryz.ntmps130
  go_wp2_with fail
  clear e1 e2
  go_loop [0, 3] (fun u0 u3 => ∃ (m : Nat) (r : List UInt8), m < 18446744073709551616 ∧ u0 = .int .u64 (m : Int) ∧ u3 = .string ⟨r.toArray⟩ ∧ dgt n m r) (fun u0 _ => (intOf u0).toNat)
  case atStart => exact ⟨m, [UInt8.ofNat (48 + d)], hm64, rfl, (show Value.string (tens.extract d (d + 1)) = _ by rw [ext10 d hd10]), HS.out⟩
  case round =>
  obtain ⟨m, r, hm, rfl, rfl, hg⟩ := hrel
  have HG := Lib.hid hg
  clear hg
  by_cases h0 : 0 < m
  · obtain ⟨d, hd⟩ : ∃ d, m % 10 = d := ⟨_, rfl⟩
    have e1 : (m : Int) % 10 = (d : Int) := by omega
    have hd10 : d < 10 := by omega
    have HS := Lib.hid (dgt_step h0 HG.out)
    rw [hd] at HS
    clear hd
    have hz := dgt_len hn HG.out
    go_wp2_with fail
    go_round
    case rel => exact ⟨m / 10, UInt8.ofNat (48 + d) :: r, by omega, by go_num, (show Value.string (tens.extract d (d + 1) ++ ⟨r.toArray⟩) = _ by rw [ext10 d hd10, cons_ba]), HS.out⟩
    case measure => simp [intOf]; omega
  · obtain rfl : m = 0 := by omega
    have HE := Lib.hid (HG.out.2 rfl)
    go_wp2
    go_ret
    exact ⟨by rw [dec, HE.out]; rfl, rfl⟩

theorem rdecimal (n : Nat) (hn : n ≤ 9223372036854775807) (w : World) :
    Calls Tryz.prog 100 #[.int .i64 n] w fun e w' => e = .returned (.string (dec n)) ∧ w = w' := by
  have HD := Lib.hid (rdigits n (by omega) w)
  have hn0 : (0 : Int) ≤ (n : Int) := by omega
  go_enter Tryz.func100, Tryz.ntmps100
  go_wp2_with fail
  refine HD.out.mono ?_
  rintro e w1 ⟨rfl, rfl⟩
  go_wp2
  go_ret
  exact ⟨rfl, rfl⟩

/-! ### Same -/
end

section
open Go.RowKit

theorem row_below {w w' : World} {B e size n : Nat} {v : Value} {xs : List Value} (h : w.ownsRow B e size v n xs) (hb : Below w.heap.size w w') : w'.ownsRow B e size v n xs := by
  refine ⟨h.1, ?_⟩
  rcases h.2 with hn | ⟨g, cap, cur, rfl, hg, hgg, rest⟩
  · exact .inl hn
  · exact .inr ⟨g, cap, cur, rfl, hg, by rw [hb.block g (Array.getElem?_eq_some_iff.1 hgg).1]; exact hgg, rest⟩
theorem row_own {w : World} {B e size n : Nat} {v : Value} {xs : List Value} (h : w.ownsRow B e size v n xs) : ∀ k, v.ownBlock = some k → B ≤ k := fun k hk => (h.lt k hk).1

theorem conv_row (w : World) (B n : Nat) (v : Value) (l : List UInt8) (h : w.ownsRow B 5 1 v n (Go.Lib.byteCells l)) :
    (convert 146 9 v).run Tryz.prog w = .ok (.string ⟨l.toArray⟩) w := by
  have hn : l.length = n := by have := h.1; rw [Go.Lib.byteCells_length] at this; omega
  rcases h.2 with ⟨rfl, h0⟩ | ⟨g, cap, cur, rfl, hg, hgg, h1, h2, h3, h4⟩
  · have hl : l = [] := List.eq_nil_of_length_eq_zero (by omega)
    subst hl
    exact Go.Lib.run_convert_nil_bytes w _ _ _ _ Tryz.underlying146 Tryz.underlying5 Tryz.underlying9
  · have := run_convert_bytes_back (P := Tryz.prog) w 146 9 5 ⟨g, 0, none⟩ cap l Tryz.underlying146 Tryz.underlying5 Tryz.underlying9 (Go.Lib.bytes_of_row hgg (by rw [hn]; first | exact h4 | simpa using h4))
    rw [hn] at this
    exact this

set_option maxRecDepth 100000 in
set_option maxHeartbeats 8000000 in
theorem rjoined (A : Option Addr) (c : Nat) (l : List ByteArray) (w : World) (h : Strs w A l) (hl : l.length ≤ 30) (hs : ∀ s ∈ l, s.size ≤ 200) :
    Calls Tryz.prog 72 #[.slice A l.length c] w fun e w' => e = .returned (.string ⟨(jn l).toArray⟩) ∧ Below w.heap.size w w' := by
  obtain ⟨i0, hi, hz0, hz1, hz2⟩ := info_parts info_byte
  have HI := Lib.hid (And.intro hi (And.intro hz0 (And.intro hz1 hz2)))
  clear hi hz0 hz1 hz2
  have HH := Lib.hid h
  have HSZ := Lib.hid hs
  have HJ := Lib.hid (jn_few l hs)
  clear h hs
  go_enter Tryz.func72, Tryz.ntmps72
  go_wp2_with fail
  go_loop [3, 4] (fun u3 u4 => ∃ k N : Nat, k ≤ l.length ∧ N ≤ 221 * k ∧ u4 = .int .i64 k ∧ u3 = .int .i64 N) (fun _ u4 => l.length - (intOf u4).toNat)
  case atStart => exact ⟨0, 0, Nat.zero_le _, Nat.zero_le _, rfl, rfl⟩
  case round =>
  obtain ⟨k, N, hk, hN, rfl, rfl⟩ := hrel
  by_cases hlt : k < l.length
  · obtain ⟨s, hs⟩ := get_some l k hlt
    obtain ⟨b, off, rfl, c0⟩ := HH.out.at_ hs
    have hs2 : s.size ≤ 200 := HSZ.out s (List.mem_of_getElem? hs)
    obtain ⟨z, hz⟩ : ∃ z, s.size = z := ⟨_, rfl⟩
    rw [hz] at hs2
    clear hs
    go_wp2_with fail
    go_round
    case rel => exact ⟨k + 1, N + (z + 21), by omega, by omega, by go_num, by go_num⟩
    case measure => simp [intOf]; omega
  · obtain rfl : k = l.length := by omega
    have hN2 : N ≤ 6630 := by omega
    clear hN hk
    go_wp2_with (at_make; refine wpList_make_own _ rfl _ _ 146 rfl w.heap.size 5 i0 (.int .u8 0) 1 Tryz.underlying146 HI.out.1 HI.out.2.1 HI.out.2.2.1 .i64 .i64 _ N rfl rfl rfl (by rw [HI.out.2.2.2]; omega) (by unfold maxLen; omega) (Nat.le_refl _) ?_)
    intro w1 hown hgrow
    have HB1 : Hid (Below w.heap.size w w1) := Lib.hid ((Below.refl _ w).grown hgrow (Nat.le_refl _) (fun j hj => by cases hj))
    have HO1 := Lib.hid hown
    clear hown hgrow
    go_wp2_with fail
    go_loopw [5, 6] (fun u5 u6 wr => ∃ k : Nat, k ≤ l.length ∧ u6 = .int .i64 k ∧ wr.ownsRow w.heap.size 5 1 u5 (jn (l.take k)).length (Go.Lib.byteCells (jn (l.take k))) ∧ Below w.heap.size w wr) (fun _ u6 _ => l.length - (intOf u6).toNat)
    case atStart => exact ⟨0, Nat.zero_le _, rfl, HO1.out, HB1.out⟩
    case round =>
    obtain ⟨k, hk, rfl, hown, hbel⟩ := hrel
    have HOWN := Lib.hid hown
    have HBE := Lib.hid hbel
    clear hown hbel
    by_cases hlt : k < l.length
    · obtain ⟨s, hs⟩ := get_some l k hlt
      obtain ⟨b, off, rfl, c0⟩ := (HH.out.below HBE.out).at_ hs
      have hs2 : s.size ≤ 200 := HSZ.out s (List.mem_of_getElem? hs)
      have hbl : b < wr.heap.size := by
        have := lt_of_cell c0
        simpa using this
      have hsn := jn_snoc hs
      have hle := jn_le l (k + 1)
      have hsz : (jn (l.take k)).length + (Go.Lib.decDigits s.size).length + 1 + s.size ≤ 1000000 := by
        have hj := HJ.out
        rw [hsn] at hle
        simp only [List.length_append, List.length_cons, List.length_nil] at hle
        have : s.data.toList.length = s.size := rfl
        omega
      have HA := Lib.hid hs
      have HSN := Lib.hid hsn
      have HS2 := Lib.hid hsz
      have HBS : Hid (w.heap.size ≤ wr.heap.size) := Lib.hid HBE.out.size
      have HDC := Lib.hid (rdecimal s.size (by omega) wr)
      have hdz : (dec s.size).size = (Go.Lib.decDigits s.size).length := rfl
      have HDZ := Lib.hid hdz
      clear hs hsn hle hsz hdz
      go_wp2_with fail
      refine HDC.out.mono ?_
      rintro e w2 ⟨rfl, rfl⟩
      go_wp2_with (at_builtin; refine Go.Lib.wpList_append_own_string _ rfl _ _ 146 9 rfl w.heap.size 5 i0 Tryz.underlying146 Tryz.underlying9 HI.out.1 HI.out.2.1 HI.out.2.2.1 HI.out.2.2.2 _ _ _ rfl HOWN.out (dec s.size) rfl (by have := HS2.out; rw [HDZ.out]; unfold maxLen; omega) (by have := HS2.out; rw [HDZ.out]; omega) HBS.out ?_)
      intro v1 w1 hown1 hgrow1 _
      have HB1 := Lib.hid (HBE.out.grown hgrow1 HBS.out (row_own HOWN.out))
      have HO1 := Lib.hid hown1
      clear hown1 hgrow1
      go_wp2_with (at_builtin; refine wpList_append_own _ rfl _ _ 146 rfl w.heap.size 5 i0 (.int .u8 0) 1 1 Tryz.underlying146 HI.out.1 HI.out.2.1 HI.out.2.2.1 HI.out.2.2.2 rfl (by decide) _ _ _ rfl (HO1.out.alloc _) ⟨w1.heap.size, 0, none⟩ 1 1 [.int .u8 58] rfl rfl ?c1 ?c2 ?c3 ?c4 ?c5 ?_)
      case c1 =>
        intro j u hj
        match j, hj with
        | 0, hj => simp at hj; subst hj; simp [Addr.add]
      case c2 => intro u hu; simp at hu; subst hu; rfl
      case c3 => have := HS2.out; rw [HDZ.out]; unfold maxLen; omega
      case c4 => have := HS2.out; rw [HDZ.out]; omega
      case c5 => have := HB1.out.size; simp; omega
      intro v2 w2 hown2 hgrow2 _
      have HB2 := Lib.hid ((HB1.out.alloc (by first | exact HB1.out.size | rfl) _).grown hgrow2 (by have := HB1.out.size; simp; omega) (row_own HO1.out))
      have HO2 := Lib.hid hown2
      clear hown2 hgrow2
      obtain ⟨b2, off2, he, c2⟩ := (HH.out.below HB2.out).at_ HA.out
      cases he
      go_wp2_with (at_builtin; refine Go.Lib.wpList_append_own_string _ rfl _ _ 146 9 rfl w.heap.size 5 i0 Tryz.underlying146 Tryz.underlying9 HI.out.1 HI.out.2.1 HI.out.2.2.1 HI.out.2.2.2 _ _ _ rfl HO2.out s rfl (by have := HS2.out; rw [HDZ.out]; unfold maxLen; omega) (by have := HS2.out; rw [HDZ.out]; omega) HB2.out.size ?_)
      intro v3 w3 hown3 hgrow3 _
      have HB3 := Lib.hid (HB2.out.grown hgrow3 HB2.out.size (row_own HO2.out))
      have hfin : w3.ownsRow w.heap.size 5 1 v3 (jn (l.take (k + 1))).length (Go.Lib.byteCells (jn (l.take (k + 1)))) := by
        have e1 : (jn (l.take (k + 1))).length = (jn (l.take k)).length + (dec s.size).size + 1 + s.size := by
          rw [HSN.out, HDZ.out]; simp only [List.length_append, List.length_singleton]; rfl
        have e2 : Go.Lib.byteCells (jn (l.take (k + 1))) = Go.Lib.byteCells (jn (l.take k)) ++ Go.Lib.strCells (dec s.size) ++ [.int .u8 58] ++ Go.Lib.strCells s := by
          rw [HSN.out]; simp [Go.Lib.byteCells, Go.Lib.strCells, dec]
        rw [e1, e2]; simp only [List.append_assoc, List.singleton_append]; exact hown3
      have HF := Lib.hid hfin
      clear hown3 hgrow3 hfin
      go_wp2_with fail
      go_roundw
      case rel => exact ⟨k + 1, by omega, by go_num, HF.out, HB3.out⟩
      case measure => simp [intOf]; omega
    · obtain rfl : k = l.length := by omega
      rw [List.take_length] at HOWN
      have hcv := conv_row _ _ _ _ _ HOWN.out
      go_wp2
      go_ret
      exact ⟨rfl, HBE.out⟩

theorem rlist (A : Option Addr) (c : Nat) (l : List ByteArray) (w : World) (h : Strs w A l) (hl : l.length ≤ 30) (hs : ∀ s ∈ l, s.size ≤ 200) :
    Calls Tryz.prog 117 #[.slice A l.length c] w fun e w' => e = .returned (.string (dg ⟨(jn l).toArray⟩)) ∧ Below w.heap.size w w' := by
  have HJ := Lib.hid (rjoined A c l w h hl hs)
  have hz : (⟨(jn l).toArray⟩ : ByteArray).size ≤ 1000000000 := by
    have := jn_few l hs
    show (jn l).length ≤ _
    omega
  have HS : Hid (∀ w', Calls Tryz.prog 57 #[.string ⟨(jn l).toArray⟩] w' fun e w'' => e = .returned (.string (dg ⟨(jn l).toArray⟩)) ∧ w' = w'') := Lib.hid (fun w' => rsum _ hz w')
  clear h hs hz
  obtain ⟨t, ht⟩ : ∃ t, (⟨(jn l).toArray⟩ : ByteArray) = t := ⟨_, rfl⟩
  rw [ht] at HJ HS ⊢
  clear ht
  go_enter Tryz.func117, Tryz.ntmps117
  go_wp2_with fail
  refine HJ.out.mono ?_
  rintro e w1 ⟨rfl, hb1⟩
  have HB1 := Lib.hid hb1
  clear hb1
  go_wp2_with fail
  refine (HS.out w1).mono ?_
  rintro e w2 ⟨rfl, rfl⟩
  go_wp2
  go_ret
  exact ⟨rfl, HB1.out⟩
end

end Go.Proofs.YtjfondfjdhjooaaGreatDoor
