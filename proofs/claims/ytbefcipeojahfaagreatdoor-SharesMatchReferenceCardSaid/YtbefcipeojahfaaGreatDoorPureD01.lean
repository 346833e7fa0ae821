/- Plain laws of the digest: its form; texts that differ in one block. -/
import Derived.Test.YtbefcipeojahfaaGreatDoorEq01
namespace Go.Proofs.YtbefcipeojahfaaGreatDoor
open Go.RowKit

/-! ### the form -/
theorem hexd_in (n : Nat) (h : n < 16) : hexs.data.toList.contains (hexd n) = true := by
  have key : ((List.range 16).all fun n => hexs.data.toList.contains (hexd n)) = true := by decide
  exact List.all_eq_true.1 key n (List.mem_range.2 h)
theorem hexk_in (u k : Nat) : (hexk u k).all (hexs.data.toList.contains ·) = true := by
  induction k with
  | zero => rfl
  | succ k ih => rw [hexk, List.all_cons, hexd_in _ (Nat.mod_lt _ (by omega)), ih]; rfl
theorem isD_dg (t : ByteArray) : isD (dg t) = true := by
  have h1 : (dg t).data.toList = hexk (dgs t).toNat 16 := by simp [dg]
  rw [isD, dg_size, h1, hexk_in]; rfl

/-! ### mixing loses nothing -/
theorem xor_zero_eq (x y : Nat) (h : x ^^^ y = 0) : x = y := by
  have h1 : x ^^^ (x ^^^ y) = y := by rw [← Nat.xor_assoc, Nat.xor_self, Nat.zero_xor]
  rw [h, Nat.xor_zero] at h1
  exact h1
theorem xs_inj (k : Nat) (hk : 0 < k) (x y : Nat) (h : x ^^^ x >>> k = y ^^^ y >>> k) : x = y := by
  have h1 : (x ^^^ y) ^^^ (x ^^^ y) >>> k = 0 := by
    rw [Nat.shiftRight_xor_distrib]
    have e : x ^^^ y ^^^ (x >>> k ^^^ y >>> k) = (x ^^^ x >>> k) ^^^ (y ^^^ y >>> k) := by
      rw [Nat.xor_assoc, Nat.xor_assoc]
      congr 1
      rw [← Nat.xor_assoc, Nat.xor_comm y, Nat.xor_assoc]
    rw [e, h, Nat.xor_self]
  have h2 : (x ^^^ y) = (x ^^^ y) >>> k := xor_zero_eq _ _ h1
  rw [Nat.shiftRight_eq_div_pow] at h2
  have h3 : x ^^^ y = 0 := by
    rcases Nat.eq_zero_or_pos (x ^^^ y) with h4 | h4
    · exact h4
    · have h5 : 2 ≤ 2 ^ k := by
        calc 2 = 2 ^ 1 := rfl
          _ ≤ 2 ^ k := Nat.pow_le_pow_right (by omega) hk
      have h6 : (x ^^^ y) / 2 ^ k < (x ^^^ y) := Nat.div_lt_self h4 (by omega)
      omega
  exact xor_zero_eq _ _ h3
theorem xs64 (a b : UInt64) (k : UInt64) (hk : 0 < k.toNat % 64) (h : a ^^^ a >>> k = b ^^^ b >>> k) : a = b := by
  have h1 := congrArg UInt64.toNat h
  rw [UInt64.toNat_xor, UInt64.toNat_xor, UInt64.toNat_shiftRight, UInt64.toNat_shiftRight] at h1
  exact UInt64.toNat_inj.1 (xs_inj _ hk _ _ h1)
theorem mul64 (a b c d : UInt64) (hcd : c * d = 1) (h : a * c = b * c) : a = b := by
  have h1 : a * c * d = b * c * d := by rw [h]
  rw [UInt64.mul_assoc, UInt64.mul_assoc, hcd, UInt64.mul_one, UInt64.mul_one] at h1
  exact h1
theorem mix_inj (a b : UInt64) (h : mix64 a = mix64 b) : a = b := by
  unfold mix64 at h
  have h1 := xs64 _ _ 33 (by decide) h
  have h2 := mul64 _ _ _ 614540362697595703 (by decide) h1
  have h3 := xs64 _ _ 27 (by decide) h2
  have h4 := mul64 _ _ _ 839798700976720815 (by decide) h3
  exact xs64 _ _ 31 (by decide) h4
theorem xor_can (a b c : UInt64) (h : a ^^^ b = a ^^^ c) : b = c := by
  have h1 : a ^^^ (a ^^^ b) = a ^^^ (a ^^^ c) := by rw [h]
  rw [← UInt64.xor_assoc, ← UInt64.xor_assoc, UInt64.xor_self, UInt64.zero_xor, UInt64.zero_xor] at h1
  exact h1

/-! ### a block is its bytes -/
def valr : List UInt8 → Nat
  | [] => 0
  | c :: r => valr r * 256 + c.toNat
theorem valr_inj (r s : List UInt8) (hl : r.length = s.length) (h : valr r = valr s) : r = s := by
  induction r generalizing s with
  | nil =>
    cases s with
    | nil => rfl
    | cons _ _ => simp at hl
  | cons c r ih =>
    cases s with
    | nil => simp at hl
    | cons d s =>
      have h1 := c.toNat_lt
      have h2 := d.toNat_lt
      rw [valr, valr] at h
      have h3 : c.toNat = d.toNat := by omega
      rw [ih s (by simpa using hl) (by omega), UInt8.toNat_inj.1 h3]
theorem valr_lt (r : List UInt8) : valr r < 256 ^ r.length := by
  induction r with
  | nil => simp [valr]
  | cons c r ih =>
    have h1 := c.toNat_lt
    rw [valr, List.length_cons, Nat.pow_succ]
    omega
theorem blk_val (r : List UInt8) (h : r.length ≤ 8) : (blk64 r.reverse).toNat = valr r := by
  induction r with
  | nil => rfl
  | cons c r ih =>
    have h1 := valr_lt r
    have h2 : (256 : Nat) ^ r.length ≤ 256 ^ 7 := Nat.pow_le_pow_right (by omega) (by simpa using h)
    have h3 : (256 : Nat) ^ 7 = 72057594037927936 := by decide
    have hc := c.toNat_lt
    rw [List.reverse_cons, blk_snoc, UInt64.toNat_or, UInt64.toNat_shiftLeft, ih (by simp at h; omega), valr, UInt8.toNat_toUInt64]
    have e : (8 : UInt64).toNat % 64 = 8 := rfl
    rw [e]
    have h4 : valr r <<< 8 % 2 ^ 64 = valr r <<< 8 := Nat.mod_eq_of_lt (by rw [Nat.shiftLeft_eq]; omega)
    rw [h4, ← Nat.shiftLeft_add_eq_or_of_lt (by simpa using hc), Nat.shiftLeft_eq]
theorem blk_inj (l m : List UInt8) (hl : l.length = 8) (hm : m.length = 8) (h : blk64 l = blk64 m) : l = m := by
  have h1 := blk_val l.reverse (by simp [hl])
  have h2 := blk_val m.reverse (by simp [hm])
  rw [List.reverse_reverse] at h1 h2
  have h3 := valr_inj l.reverse m.reverse (by simp [hl, hm]) (by rw [← h1, ← h2, h])
  simpa using h3

/-! ### texts that differ in one block -/
theorem absorb_one (s : UInt64) (t u : ByteArray) (m K : Nat) (hm : m < K) (h : ∀ k, k < K → k ≠ m → pblk t k = pblk u k) : absorb s t K = absorb s u K ↔ pblk t m = pblk u m := by
  have same : ∀ J, J ≤ m → absorb s t J = absorb s u J := by
    intro J hJ
    induction J with
    | zero => rfl
    | succ J ih => rw [absorb, absorb, ih (by omega), h J (by omega) (by omega)]
  induction K with
  | zero => omega
  | succ K ih =>
    rw [absorb, absorb]
    by_cases hK : m = K
    · subst hK
      rw [same m (Nat.le_refl _)]
      constructor
      · intro e
        exact blk_inj _ _ (pblk_len _ _) (pblk_len _ _) (xor_can _ _ _ (mix_inj _ _ e))
      · intro e; rw [e]
    · have hi := ih (by omega) (fun k hk hn => h k (by omega) hn)
      rw [h K (by omega) (fun e => hK e.symm)]
      constructor
      · intro e
        have e1 := mix_inj _ _ e
        rw [UInt64.xor_comm, UInt64.xor_comm (absorb s u K)] at e1
        exact hi.1 (xor_can _ _ _ e1)
      · intro e; rw [hi.2 e]

theorem block_eq (p a b r : List UInt8) (m : Nat) (hp : p.length = 8 * m) (hab : a.length = b.length) (ha : a.length ≤ 8) :
    dg ⟨(p ++ a ++ r).toArray⟩ = dg ⟨(p ++ b ++ r).toArray⟩ ↔ a = b := by
  rw [dg_eq]
  have hs : (⟨(p ++ a ++ r).toArray⟩ : ByteArray).size = (⟨(p ++ b ++ r).toArray⟩ : ByteArray).size := by
    show (p ++ a ++ r).length = (p ++ b ++ r).length
    simp [hab]
  have hz : (⟨(p ++ a ++ r).toArray⟩ : ByteArray).size = (p ++ a ++ r).length := rfl
  unfold dgs
  rw [← hs]
  have hm : m < (⟨(p ++ a ++ r).toArray⟩ : ByteArray).size / 8 + 1 := by
    rw [hz]; simp only [List.length_append]; omega
  rw [absorb_one _ _ _ m _ hm (fun k _ hk => ?_)]
  · have e1 : ∀ c : List UInt8, ((p ++ c ++ r).drop (8 * m)) = c ++ r := fun c => by
      rw [List.append_assoc, List.drop_left' hp]
    constructor
    · intro e
      have e2 : (pblk ⟨(p ++ a ++ r).toArray⟩ m).take a.length = a := by
        show (((p ++ a ++ r).drop (8 * m)).take 8 ++ _).take a.length = a
        rw [e1, List.take_append_of_le_length (by rw [List.length_take, List.length_append]; omega), List.take_take, Nat.min_eq_left ha, List.take_left' rfl]
      have e3 : (pblk ⟨(p ++ b ++ r).toArray⟩ m).take a.length = b := by
        show (((p ++ b ++ r).drop (8 * m)).take 8 ++ _).take a.length = b
        rw [e1, List.take_append_of_le_length (by rw [List.length_take, List.length_append]; omega), List.take_take, Nat.min_eq_left ha, List.take_left' hab.symm]
      rw [← e2, e, e3]
    · intro e; rw [e]
  · unfold pblk
    show (((p ++ a ++ r).drop (8 * k)).take 8) ++ _ = (((p ++ b ++ r).drop (8 * k)).take 8) ++ _
    have key : ((p ++ a ++ r).drop (8 * k)).take 8 = ((p ++ b ++ r).drop (8 * k)).take 8 := by
      rcases Nat.lt_or_gt_of_ne hk with h1 | h1
      · rw [List.append_assoc, List.append_assoc, List.drop_append_of_le_length (by omega), List.drop_append_of_le_length (by omega), List.take_append_of_le_length (by rw [List.length_drop]; omega), List.take_append_of_le_length (by rw [List.length_drop]; omega)]
      · have e1 : ∀ c : List UInt8, c.length = a.length → (p ++ c ++ r).drop (8 * k) = r.drop (8 * k - (p.length + c.length)) := fun c hc => by
          rw [List.drop_append, List.length_append, List.drop_of_length_le (by rw [List.length_append]; omega), List.nil_append]
        rw [e1 a rfl, e1 b hab.symm, hab]
    show _ ++ List.replicate (8 - (((p ++ a ++ r).drop (8 * k)).take 8).length) 0 = _ ++ List.replicate (8 - (((p ++ b ++ r).drop (8 * k)).take 8).length) 0
    rw [key]

theorem block_ba (p a b r : ByteArray) (m : Nat) (hp : p.size = 8 * m) (hab : a.size = b.size) (ha : a.size ≤ 8) : dg (p ++ a ++ r) = dg (p ++ b ++ r) ↔ a = b := by
  have e : ∀ c : ByteArray, p ++ c ++ r = ⟨(p.data.toList ++ c.data.toList ++ r.data.toList).toArray⟩ := fun c => by
    apply ByteArray.ext
    apply Array.toList_inj.1
    rw [ByteArray.data_append, ByteArray.data_append, Array.toList_append, Array.toList_append]
  rw [e a, e b, block_eq _ _ _ _ m hp hab ha]
  constructor
  · intro h; exact ByteArray.ext (Array.toList_inj.1 h)
  · intro h; rw [h]

/-! ### short texts -/
theorem short_eq (a b : ByteArray) (ha : a.size ≤ 7) (hb : b.size ≤ 7) : dg a = dg b ↔ a = b := by
  rw [dg_eq]
  constructor
  · intro h
    unfold dgs at h
    have e1 : a.size / 8 + 1 = 0 + 1 := by omega
    have e2 : b.size / 8 + 1 = 0 + 1 := by omega
    rw [e1, e2, absorb, absorb, absorb, absorb] at h
    have h1 := mix_inj _ _ h
    rw [UInt64.xor_assoc, UInt64.xor_assoc] at h1
    have h2 := congrArg UInt64.toNat (xor_can _ _ _ h1)
    rw [UInt64.toNat_xor, UInt64.toNat_xor, UInt64.toNat_ofNat', UInt64.toNat_ofNat', Nat.mod_eq_of_lt (show a.size < 2 ^ 64 by omega), Nat.mod_eq_of_lt (show b.size < 2 ^ 64 by omega)] at h2
    have low : ∀ t : ByteArray, t.size ≤ 7 → (blk64 (pblk t 0)).toNat % 2 ^ 8 = 0 := by
      intro t ht
      have hl : (t.data.toList.drop (8 * 0)).take 8 = t.data.toList := by
        rw [Nat.mul_zero, List.drop_zero, List.take_of_length_le (by show t.size ≤ 8; omega)]
      have h5 := blk_val (pblk t 0).reverse (by simp [pblk_len])
      rw [List.reverse_reverse] at h5
      rw [h5]
      have h6 : (pblk t 0).reverse = 0 :: (List.replicate (8 - t.data.toList.length - 1) 0 ++ t.data.toList.reverse) := by
        unfold pblk
        rw [hl, List.reverse_append, List.reverse_replicate]
        have h7 : 8 - t.data.toList.length = (8 - t.data.toList.length - 1) + 1 := by
          have : t.data.toList.length = t.size := rfl
          omega
        rw [h7, List.replicate_succ]
        simp
      rw [h6, valr]
      show (_ * 256 + 0) % 256 = 0
      omega
    have h3 := congrArg (· % 2 ^ 8) h2
    simp only [Nat.xor_mod_two_pow] at h3
    rw [low a ha, low b hb, Nat.xor_zero, Nat.xor_zero, Nat.mod_eq_of_lt (show a.size < 2 ^ 8 by omega), Nat.mod_eq_of_lt (show b.size < 2 ^ 8 by omega)] at h3
    rw [h3] at h2
    have h4 : (blk64 (pblk a 0)).toNat = (blk64 (pblk b 0)).toNat := by
      have := congrArg (b.size ^^^ ·) h2
      simp only [← Nat.xor_assoc, Nat.xor_self, Nat.zero_xor] at this
      exact this
    have h5 := blk_inj _ _ (pblk_len a 0) (pblk_len b 0) (UInt64.toNat_inj.1 h4)
    have tk : ∀ t : ByteArray, t.size ≤ 7 → (pblk t 0).take t.size = t.data.toList := by
      intro t ht
      have hl : (t.data.toList.drop (8 * 0)).take 8 = t.data.toList := by
        rw [Nat.mul_zero, List.drop_zero, List.take_of_length_le (by show t.size ≤ 8; omega)]
      unfold pblk
      rw [hl]
      exact List.take_left' (show t.data.toList.length = t.size from rfl)
    have h6 : a.data.toList = b.data.toList := by rw [← tk a ha, ← tk b hb, h5, h3]
    exact ByteArray.ext (Array.toList_inj.1 h6)
  · intro h; rw [h]

end Go.Proofs.YtbefcipeojahfaaGreatDoor
