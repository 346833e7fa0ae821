/- Plain laws of the trees of layer 2. -/
import Derived.Test.YtbefcipeojahfaaGreatDoorPureD02
namespace Go.Proofs.YtbefcipeojahfaaGreatDoor
open Go.RowKit

def bNode : ByteArray := ⟨#[110, 111, 100, 101]⟩
def bLeaf : ByteArray := ⟨#[108, 101, 97, 102]⟩
def bEmpty : ByteArray := ⟨#[101, 109, 112, 116, 121]⟩
/-- The joined text of a list. -/
def jb (l : List ByteArray) : ByteArray := ⟨(jn l).toArray⟩
def nd (a b : ByteArray) : ByteArray := dg (jb [bNode, a, b])
def lf (s : ByteArray) : ByteArray := dg (jb [bLeaf, s])
def em : ByteArray := dg (jb [bEmpty])

/-! ### half -/
def hf (n : Nat) : Nat := if n ≤ 1 then 1 else 2 ^ Nat.log2 (n - 1)
theorem hf_pos (n : Nat) : 1 ≤ hf n := by
  unfold hf; split
  · exact Nat.le_refl _
  · exact Nat.one_le_two_pow
theorem hf_lt (n : Nat) (h : 2 ≤ n) : hf n < n := by
  unfold hf
  rw [if_neg (by omega)]
  have := Nat.log2_self_le (n := n - 1) (by omega)
  omega
theorem hf_le (n : Nat) : n ≤ 2 * hf n := by
  unfold hf
  split
  · omega
  · have := Nat.lt_log2_self (n := n - 1)
    rw [Nat.pow_succ] at this
    omega
theorem hf_eq (n j : Nat) (h1 : 2 ^ j < n ∨ j = 0) (h2 : n ≤ 2 * 2 ^ j) : hf n = 2 ^ j := by
  unfold hf
  split
  · rcases h1 with h1 | rfl
    · have := Nat.one_le_two_pow (n := j); omega
    · rfl
  · rename_i hn
    congr 1
    apply (Nat.log2_eq_iff (by omega)).2
    rw [Nat.pow_succ]
    rcases h1 with h1 | rfl
    · omega
    · simp at h2 ⊢; omega
theorem hf_mid (n m : Nat) (h1 : hf n < m) (h2 : m ≤ n) : hf m = hf n := by
  have h3 := hf_le n
  have h4 : ∃ j, hf n = 2 ^ j := by
    unfold hf; split
    · exact ⟨0, rfl⟩
    · exact ⟨_, rfl⟩
  obtain ⟨j, hj⟩ := h4
  rw [hj] at h1 h3 ⊢
  exact hf_eq m j (.inl h1) (by omega)

/-! ### the root -/
def rt (l : List ByteArray) : ByteArray :=
  if _h : 2 ≤ l.length then nd (rt (l.take (hf l.length))) (rt (l.drop (hf l.length))) else l.headD em
termination_by l.length
decreasing_by
  all_goals
    have h1 := hf_lt l.length _h
    have h2 := hf_pos l.length
    simp only [List.length_take, List.length_drop]; omega
theorem rt_two (l : List ByteArray) (h : 2 ≤ l.length) : rt l = nd (rt (l.take (hf l.length))) (rt (l.drop (hf l.length))) := by rw [rt, dif_pos h]
theorem rt_one (x : ByteArray) : rt [x] = x := by rw [rt, dif_neg (by simp)]; rfl
theorem rt_nil : rt [] = em := by rw [rt, dif_neg (by simp)]; rfl
theorem rt_split (l : List ByteArray) (k : Nat) (h : 2 ≤ l.length) (hk : hf l.length = k) : rt l = nd (rt (l.take k)) (rt (l.drop k)) := by rw [rt_two l h, hk]

def allD (l : List ByteArray) : Bool := l.all isD
theorem allD_take {l : List ByteArray} (h : allD l = true) (k : Nat) : allD (l.take k) = true := by
  simp only [allD, List.all_eq_true] at h ⊢
  exact fun x hx => h x (List.mem_of_mem_take hx)
theorem allD_drop {l : List ByteArray} (h : allD l = true) (k : Nat) : allD (l.drop k) = true := by
  simp only [allD, List.all_eq_true] at h ⊢
  exact fun x hx => h x (List.mem_of_mem_drop hx)
theorem isD_nd (a b : ByteArray) : isD (nd a b) = true := isD_dg _
theorem isD_em : isD em = true := isD_dg _
theorem isD_rt (l : List ByteArray) (h : allD l = true) : isD (rt l) = true := by
  by_cases h2 : 2 ≤ l.length
  · rw [rt_two l h2]; exact isD_nd _ _
  · match l, h2 with
    | [], _ => rw [rt_nil]; exact isD_em
    | [x], _ => rw [rt_one]; simpa [allD] using h
    | x :: y :: l, h2 => simp at h2
theorem isD_16 {s : ByteArray} (h : isD s = true) : s.size = 16 := by
  rcases Nat.decEq s.size 16 with h2 | h2
  · exfalso
    simp [isD, h2] at h
  · exact h2

/-! ### the strings that are digested -/
def Col (T : List ByteArray) : Prop := ∃ x ∈ T, ∃ y ∈ T, x ≠ y ∧ dg x = dg y
theorem Col.mono {T U : List ByteArray} (h : Col T) (hs : ∀ x, x ∈ T → x ∈ U) : Col U := by
  obtain ⟨x, hx, y, hy, h⟩ := h
  exact ⟨x, hs x hx, y, hs y hy, h⟩
def txt (l : List ByteArray) : List ByteArray :=
  if _h : 2 ≤ l.length then txt (l.take (hf l.length)) ++ txt (l.drop (hf l.length)) ++ [jb [bNode, rt (l.take (hf l.length)), rt (l.drop (hf l.length))]]
  else if l.length = 0 then [jb [bEmpty]] else []
termination_by l.length
decreasing_by
  all_goals
    have h1 := hf_lt l.length _h
    have h2 := hf_pos l.length
    simp only [List.length_take, List.length_drop]; omega
theorem txt_two (l : List ByteArray) (h : 2 ≤ l.length) : txt l = txt (l.take (hf l.length)) ++ txt (l.drop (hf l.length)) ++ [jb [bNode, rt (l.take (hf l.length)), rt (l.drop (hf l.length))]] := by rw [txt, dif_pos h]
theorem txt_one (x : ByteArray) : txt [x] = [] := by rw [txt, dif_neg (by simp), if_neg (by simp)]
theorem txt_nil : txt [] = [jb [bEmpty]] := by rw [txt, dif_neg (by simp), if_pos (by simp)]

theorem jb_inj {l m : List ByteArray} (h : jb l = jb m) : l = m := (jn_ba l m).1 h
/-- Two nodes with one digest: their parts are equal, or their strings collide. -/
theorem nd_bind (a b c d : ByteArray) (T : List ByteArray) (h : nd a b = nd c d) (h1 : jb [bNode, a, b] ∈ T) (h2 : jb [bNode, c, d] ∈ T) : (a = c ∧ b = d) ∨ Col T := by
  by_cases e : jb [bNode, a, b] = jb [bNode, c, d]
  · have := jb_inj e
    simp only [List.cons.injEq, and_true, true_and] at this
    exact .inl this
  · exact .inr ⟨_, h1, _, h2, e, h⟩

theorem roots_bind (a b : List ByteArray) (hl : a.length = b.length) (h : rt a = rt b) : a = b ∨ Col (txt a ++ txt b) := by
  obtain ⟨n, hn⟩ : ∃ n, a.length = n := ⟨_, rfl⟩
  induction n using Nat.strongRecOn generalizing a b with
  | _ n ih =>
    by_cases h2 : 2 ≤ a.length
    · have hb2 : 2 ≤ b.length := by omega
      obtain ⟨k, hk⟩ : ∃ k, hf a.length = k := ⟨_, rfl⟩
      have hkb : hf b.length = k := by rw [← hl]; exact hk
      have k1 := hf_lt a.length h2
      have k2 := hf_pos a.length
      rw [rt_two a h2, rt_two b hb2, hk, hkb] at h
      rw [txt_two a h2, txt_two b hb2, hk, hkb]
      rcases nd_bind _ _ _ _ _ h (List.mem_append.2 (.inl (List.mem_append.2 (.inr List.mem_cons_self)))) (List.mem_append.2 (.inr (List.mem_append.2 (.inr List.mem_cons_self)))) with ⟨e1, e2⟩ | hc
      · rcases ih (a.take k).length (by rw [List.length_take]; omega) (a.take k) (b.take k) (by rw [List.length_take, List.length_take]; omega) e1 rfl with f1 | hc
        · rcases ih (a.drop k).length (by rw [List.length_drop]; omega) (a.drop k) (b.drop k) (by rw [List.length_drop, List.length_drop]; omega) e2 rfl with f2 | hc
          · left
            rw [← List.take_append_drop k a, f1, f2, List.take_append_drop]
          · right
            exact hc.mono (fun x hx => by simp only [List.mem_append] at hx ⊢; rcases hx with hx | hx <;> simp [hx])
        · right
          exact hc.mono (fun x hx => by simp only [List.mem_append] at hx ⊢; rcases hx with hx | hx <;> simp [hx])
      · exact .inr hc
    · match a, b, hl, h2, h with
      | [], [], _, _, _ => exact .inl rfl
      | [x], [y], _, _, h => rw [rt_one, rt_one] at h; exact .inl (by rw [h])
      | x :: y :: l, _, _, h2, _ => simp at h2
      | [], y :: m, hl, _, _ => simp at hl
      | [x], y :: z :: m, hl, _, _ => simp at hl
      | [x], [], hl, _, _ => simp at hl

/-! ### paths -/
def pt (l : List ByteArray) (i : Nat) : List ByteArray :=
  if _h : 2 ≤ l.length then
    if i < hf l.length then pt (l.take (hf l.length)) i ++ [rt (l.drop (hf l.length))] else pt (l.drop (hf l.length)) (i - hf l.length) ++ [rt (l.take (hf l.length))]
  else []
termination_by l.length
decreasing_by
  all_goals
    have h1 := hf_lt l.length _h
    have h2 := hf_pos l.length
    simp only [List.length_take, List.length_drop]; omega
theorem pt_lt (l : List ByteArray) (i : Nat) (h : 2 ≤ l.length) (hi : i < hf l.length) : pt l i = pt (l.take (hf l.length)) i ++ [rt (l.drop (hf l.length))] := by rw [pt, dif_pos h, if_pos hi]
theorem pt_ge (l : List ByteArray) (i : Nat) (h : 2 ≤ l.length) (hi : ¬ i < hf l.length) : pt l i = pt (l.drop (hf l.length)) (i - hf l.length) ++ [rt (l.take (hf l.length))] := by rw [pt, dif_pos h, if_neg hi]
theorem pt_one (l : List ByteArray) (i : Nat) (h : ¬ 2 ≤ l.length) : pt l i = [] := by rw [pt, dif_neg h]

def plen (n i : Nat) : Nat := if _h : 2 ≤ n then 1 + (if i < hf n then plen (hf n) i else plen (n - hf n) (i - hf n)) else 0
termination_by n
decreasing_by
  all_goals
    have h1 := hf_lt n _h
    have h2 := hf_pos n
    omega
theorem plen_lt (n i : Nat) (h : 2 ≤ n) (hi : i < hf n) : plen n i = 1 + plen (hf n) i := by rw [plen, dif_pos h, if_pos hi]
theorem plen_ge (n i : Nat) (h : 2 ≤ n) (hi : ¬ i < hf n) : plen n i = 1 + plen (n - hf n) (i - hf n) := by rw [plen, dif_pos h, if_neg hi]
theorem plen_one (n i : Nat) (h : ¬ 2 ≤ n) : plen n i = 0 := by rw [plen, dif_neg h]

def upv (n i : Nat) (s : ByteArray) (p : List ByteArray) : ByteArray :=
  if _h : 2 ≤ n then
    if i < hf n then nd (upv (hf n) i s p.dropLast) (p.getLastD ByteArray.empty) else nd (p.getLastD ByteArray.empty) (upv (n - hf n) (i - hf n) s p.dropLast)
  else s
termination_by n
decreasing_by
  all_goals
    have h1 := hf_lt n _h
    have h2 := hf_pos n
    omega
theorem upv_lt (n i : Nat) (s : ByteArray) (p : List ByteArray) (h : 2 ≤ n) (hi : i < hf n) : upv n i s p = nd (upv (hf n) i s p.dropLast) (p.getLastD ByteArray.empty) := by rw [upv, dif_pos h, if_pos hi]
theorem upv_ge (n i : Nat) (s : ByteArray) (p : List ByteArray) (h : 2 ≤ n) (hi : ¬ i < hf n) : upv n i s p = nd (p.getLastD ByteArray.empty) (upv (n - hf n) (i - hf n) s p.dropLast) := by rw [upv, dif_pos h, if_neg hi]
theorem upv_one (n i : Nat) (s : ByteArray) (p : List ByteArray) (h : ¬ 2 ≤ n) : upv n i s p = s := by rw [upv, dif_neg h]

def ptx (n i : Nat) (s : ByteArray) (p : List ByteArray) : List ByteArray :=
  if _h : 2 ≤ n then
    if i < hf n then ptx (hf n) i s p.dropLast ++ [jb [bNode, upv (hf n) i s p.dropLast, p.getLastD ByteArray.empty]]
    else ptx (n - hf n) (i - hf n) s p.dropLast ++ [jb [bNode, p.getLastD ByteArray.empty, upv (n - hf n) (i - hf n) s p.dropLast]]
  else []
termination_by n
decreasing_by
  all_goals
    have h1 := hf_lt n _h
    have h2 := hf_pos n
    omega
theorem ptx_lt (n i : Nat) (s : ByteArray) (p : List ByteArray) (h : 2 ≤ n) (hi : i < hf n) : ptx n i s p = ptx (hf n) i s p.dropLast ++ [jb [bNode, upv (hf n) i s p.dropLast, p.getLastD ByteArray.empty]] := by rw [ptx, dif_pos h, if_pos hi]
theorem ptx_ge (n i : Nat) (s : ByteArray) (p : List ByteArray) (h : 2 ≤ n) (hi : ¬ i < hf n) : ptx n i s p = ptx (n - hf n) (i - hf n) s p.dropLast ++ [jb [bNode, p.getLastD ByteArray.empty, upv (n - hf n) (i - hf n) s p.dropLast]] := by rw [ptx, dif_pos h, if_neg hi]
theorem ptx_one (n i : Nat) (s : ByteArray) (p : List ByteArray) (h : ¬ 2 ≤ n) : ptx n i s p = [] := by rw [ptx, dif_neg h]

theorem pt_len (l : List ByteArray) (i : Nat) : (pt l i).length = plen l.length i := by
  obtain ⟨n, hn⟩ : ∃ n, l.length = n := ⟨_, rfl⟩
  induction n using Nat.strongRecOn generalizing l i with
  | _ n ih =>
    by_cases h : 2 ≤ l.length
    · have k1 := hf_lt l.length h
      have k2 := hf_pos l.length
      by_cases hi : i < hf l.length
      · have e : (l.take (hf l.length)).length = hf l.length := by rw [List.length_take]; omega
        rw [pt_lt l i h hi, plen_lt _ i h hi, List.length_append, ih _ (by rw [e]; omega) _ i rfl, e, List.length_singleton]; omega
      · have e : (l.drop (hf l.length)).length = l.length - hf l.length := by rw [List.length_drop]
        rw [pt_ge l i h hi, plen_ge _ i h hi, List.length_append, ih _ (by rw [e]; omega) _ _ rfl, e, List.length_singleton]; omega
    · rw [pt_one l i h, plen_one _ i h]; rfl
theorem pt_up (l : List ByteArray) (i : Nat) (s : ByteArray) (hs : l[i]? = some s) : upv l.length i s (pt l i) = rt l := by
  obtain ⟨n, hn⟩ : ∃ n, l.length = n := ⟨_, rfl⟩
  induction n using Nat.strongRecOn generalizing l i with
  | _ n ih =>
    by_cases h : 2 ≤ l.length
    · have k1 := hf_lt l.length h
      have k2 := hf_pos l.length
      rw [rt_two l h]
      by_cases hi : i < hf l.length
      · have e : (l.take (hf l.length)).length = hf l.length := by rw [List.length_take]; omega
        have := ih _ (by rw [e]; omega) (l.take (hf l.length)) i (by rw [List.getElem?_take, if_pos hi, hs]) rfl
        rw [e] at this
        rw [upv_lt _ _ _ _ h hi, pt_lt l i h hi, List.dropLast_concat, List.getLastD_concat, this]
      · have e : (l.drop (hf l.length)).length = l.length - hf l.length := by rw [List.length_drop]
        have := ih _ (by rw [e]; omega) (l.drop (hf l.length)) (i - hf l.length) (by rw [List.getElem?_drop, ← hs]; congr 1; omega) rfl
        rw [e] at this
        rw [upv_ge _ _ _ _ h hi, pt_ge l i h hi, List.dropLast_concat, List.getLastD_concat, this]
    · rw [upv_one _ _ _ _ h]
      match l, h, i, hs with
      | [], _, i, hs => simp at hs
      | [x], _, 0, hs => rw [rt_one]; simpa using hs.symm
      | [x], _, i + 1, hs => simp at hs
      | x :: y :: l, h, _, _ => simp at h
theorem path_bind (l : List ByteArray) (i : Nat) (s t : ByteArray) (p : List ByteArray) (ht : l[i]? = some t) (h : upv l.length i s p = rt l) : s = t ∨ Col (txt l ++ ptx l.length i s p) := by
  obtain ⟨n, hn⟩ : ∃ n, l.length = n := ⟨_, rfl⟩
  induction n using Nat.strongRecOn generalizing l i p with
  | _ n ih =>
    by_cases h2 : 2 ≤ l.length
    · have k1 := hf_lt l.length h2
      have k2 := hf_pos l.length
      rw [rt_two l h2] at h
      rw [txt_two l h2]
      by_cases hi : i < hf l.length
      · have e : (l.take (hf l.length)).length = hf l.length := by rw [List.length_take]; omega
        rw [upv_lt _ _ _ _ h2 hi] at h
        rw [ptx_lt _ _ _ _ h2 hi]
        rcases nd_bind _ _ _ _ _ h (List.mem_append.2 (.inr (List.mem_append.2 (.inr List.mem_cons_self)))) (List.mem_append.2 (.inl (List.mem_append.2 (.inr List.mem_cons_self)))) with ⟨e1, _⟩ | hc
        · rcases ih _ (by rw [e]; omega) (l.take (hf l.length)) i p.dropLast (by rw [List.getElem?_take, if_pos hi, ht]) (by rw [e]; exact e1) rfl with hh | hc
          · exact .inl hh
          · right
            rw [e] at hc
            exact hc.mono (fun x hx => by simp only [List.mem_append] at hx ⊢; rcases hx with hx | hx <;> simp [hx])
        · exact .inr hc
      · have e : (l.drop (hf l.length)).length = l.length - hf l.length := by rw [List.length_drop]
        rw [upv_ge _ _ _ _ h2 hi] at h
        rw [ptx_ge _ _ _ _ h2 hi]
        rcases nd_bind _ _ _ _ _ h (List.mem_append.2 (.inr (List.mem_append.2 (.inr List.mem_cons_self)))) (List.mem_append.2 (.inl (List.mem_append.2 (.inr List.mem_cons_self)))) with ⟨_, e1⟩ | hc
        · rcases ih _ (by rw [e]; omega) (l.drop (hf l.length)) (i - hf l.length) p.dropLast (by rw [List.getElem?_drop, ← ht]; congr 1; omega) (by rw [e]; exact e1) rfl with hh | hc
          · exact .inl hh
          · right
            rw [e] at hc
            exact hc.mono (fun x hx => by simp only [List.mem_append] at hx ⊢; rcases hx with hx | hx <;> simp [hx])
        · exact .inr hc
    · rw [upv_one _ _ _ _ h2] at h
      left
      match l, h2, i, ht, h with
      | [], _, i, hs, _ => simp at hs
      | [x], _, 0, hs, h => rw [rt_one] at h; rw [h]; simpa using hs
      | [x], _, i + 1, hs, _ => simp at hs
      | x :: y :: l, h2, _, _, _ => simp at h2

end Go.Proofs.YtbefcipeojahfaaGreatDoor
