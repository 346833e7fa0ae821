/- The digest's plain laws; observatorylaw01.head. -/
import Derived.Test.YtbefcipeojahfaaGreatDoorList01
namespace Go.Proofs.YtbefcipeojahfaaGreatDoor
open Go.RowKit

theorem beq_bytes (a b : ByteArray) : (a.toList == b.toList) = decide (a = b) := by
  rw [ByteArray.toList_eq, ByteArray.toList_eq]
  by_cases h : a = b
  · subst h; simp
  · simp only [h, decide_false, beq_eq_false_iff_ne, ne_eq]
    intro e
    exact h (ByteArray.ext (Array.toList_inj.1 e))
theorem beq_true (a : ByteArray) : (a.toList == a.toList) = true := by simp
theorem bne_of (a b : ByteArray) (h : a ≠ b) : (a.toList == b.toList) = false ∧ (a.toList != b.toList) = true := by
  have e : (a.toList == b.toList) = false := by rw [beq_bytes, decide_eq_false h]
  exact ⟨e, by rw [bne, e]; rfl⟩

theorem hexd_inj (a b : Nat) (ha : a < 16) (hb : b < 16) (h : hexd a = hexd b) : a = b := by
  have h1 := congrArg UInt8.toNat h
  unfold hexd at h1
  split at h1 <;> split at h1 <;> simp only [UInt8.toNat_ofNat'] at h1 <;> omega
theorem hexk_inj (k u v : Nat) (h : hexk u k = hexk v k) : u % 16 ^ k = v % 16 ^ k := by
  induction k with
  | zero => simp [Nat.mod_one]
  | succ k ih =>
    rw [hexk, hexk] at h
    injection h with h1 h2
    have h3 := hexd_inj _ _ (Nat.mod_lt _ (by omega)) (Nat.mod_lt _ (by omega)) h1
    rw [Nat.pow_succ, Nat.mod_mul, Nat.mod_mul, ih h2, h3]
theorem dg_eq (a b : ByteArray) : dg a = dg b ↔ dgs a = dgs b := by
  constructor
  · intro h
    have h1 : (hexk (dgs a).toNat 16).toArray = (hexk (dgs b).toNat 16).toArray := congrArg ByteArray.data h
    have h2 : hexk (dgs a).toNat 16 = hexk (dgs b).toNat 16 := by simpa using h1
    have h3 := hexk_inj 16 _ _ h2
    have h4 : (16 : Nat) ^ 16 = 18446744073709551616 := by decide
    have h5 := (dgs a).toNat_lt
    have h6 := (dgs b).toNat_lt
    rw [h4, Nat.mod_eq_of_lt h5, Nat.mod_eq_of_lt h6] at h3
    exact UInt64.toNat_inj.1 h3
  · intro h
    rw [dg, dg, h]

def sx : ByteArray := ⟨#[120]⟩
def s0_ : ByteArray := ⟨#[0]⟩
def s1_ : ByteArray := ⟨#[1]⟩
def se : ByteArray := ⟨#[]⟩
def hexF : ByteArray := ⟨#[48, 49, 50, 51, 52, 53, 54, 55, 56, 57, 97, 98, 99, 100, 101, 70]⟩
def lab : List ByteArray := [⟨#[97]⟩, ⟨#[98, 99]⟩]
theorem head_is1 : isD hexs = true := by decide
theorem head_is2 : isD hexF = false := by decide
theorem head_is3 : isD se = false := by decide
theorem head_jn : jn lab = [49, 58, 97, 50, 58, 98, 99] := by
  have h1 : Go.Lib.decDigits 1 = [49] := by rw [Go.Lib.decDigits]; rfl
  have h2 : Go.Lib.decDigits 2 = [50] := by rw [Go.Lib.decDigits]; rfl
  show (Go.Lib.decDigits 1 ++ [58] ++ [97]) ++ ((Go.Lib.decDigits 2 ++ [58] ++ [98, 99]) ++ []) = _
  rw [h1, h2]; rfl
theorem head_0 : dg se ≠ dg s0_ := fun h => absurd ((dg_eq _ _).1 h) (by decide +kernel)
theorem head_1 : dg s1_ ≠ dg se := fun h => absurd ((dg_eq _ _).1 h) (by decide +kernel)

end Go.Proofs.YtbefcipeojahfaaGreatDoor
