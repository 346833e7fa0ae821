/- made and Split in the form that the laws use them in. -/
import Derived.Test.YthkagcelpdcfkaaRecover
namespace Go.Proofs.Ythkagcelpdcfkaa
open Go.RowKit

def nOf (a : Nat) : Nat := 1 + a % 6
def mOf (a b : Nat) : Nat := 1 + a % 6 + b % (9 - (1 + a % 6))

theorem nm_of (a b : Nat) : 1 ≤ nOf a ∧ nOf a ≤ mOf a b ∧ mOf a b ≤ 8 := by
  unfold nOf mOf
  have : b % (9 - (1 + a % 6)) < 9 - (1 + a % 6) := Nat.mod_lt _ (by omega)
  omega

theorem made_b (A : Option Addr) (c : Nat) (raw : List Int) (a b : Nat) (w : World) (hA : Ints w A raw) (hraw : raw.length ≤ 9223372036854775807) (ha : a < 256) (hb : b < 256) :
    Calls Try.prog 9 #[.slice A raw.length c, .int .u8 a, .int .u8 b] w fun e w' =>
      ∃ A' c' rnd, e = .returned (.tuple #[.int .i64 (nOf a : Nat), .int .i64 (mOf a b : Nat), .slice A' (nOf a - 1) c']) ∧ rnd = madeL raw (nOf a - 1) ∧ rnd.length = nOf a - 1 ∧ rnd.all elemB = true ∧ Ints w' A' rnd ∧ Below w.heap.size w w' := by
  refine (made_any A c raw a b w hA hraw ha hb).mono ?_
  rintro e w' ⟨v, rfl, hown, hbl⟩
  obtain ⟨A', c', rfl, -, -, hrd⟩ := Rd.of_own hown
  have e1 : a % 6 = nOf a - 1 := by unfold nOf; omega
  have hl := madeL_length raw (nOf a - 1)
  rw [e1] at hrd
  refine ⟨A', c', madeL raw (nOf a - 1), by rw [← e1]; rfl, rfl, hl, madeL_elem _ _ (by unfold nOf; omega), ?_, hbl⟩
  unfold Ints
  rw [hl]; exact hrd

theorem split_b (s : Int) (n m : Nat) (A : Option Addr) (c : Nat) (rnd : List Int) (w : World) (hs : elemB s = true) (hA : Ints w A rnd) (h1 : 1 ≤ n) (h2 : n ≤ m) (h3 : m ≤ 8) (hl : rnd.length = n - 1) (hall : rnd.all elemB = true) :
    Calls Try.prog 10 #[.int .i64 s, .int .i64 n, .int .i64 m, .slice A (n - 1) c] w fun e w' =>
      ∃ A' c', e = .returned (.tuple #[.slice A' m c', .int .i64 0]) ∧ Rd w' 2 A' m (flat2 (shs (s :: rnd) m)) ∧ m ≤ c' ∧ Below w.heap.size w w' := by
  have h := split_any s n m A c rnd w hA h1 h2 (by omega) (by omega) (by omega) (by rw [List.all_cons, hs, hall]; rfl)
  rw [hl] at h
  refine h.mono ?_
  rintro e w' ⟨v, rfl, hown, hb⟩
  obtain ⟨A', c', rfl, hc, -, hrd⟩ := Rd.of_own hown
  exact ⟨A', c', rfl, hrd, hc, hb⟩

theorem rd_prs {w : World} {A : Option Addr} {m : Nat} {l : List (Int × Int)} (h : Rd w 2 A m (flat2 l)) : m = l.length ∧ Prs w A l := by
  have h1 := h.1
  rw [flat2_length] at h1
  have : m = l.length := by omega
  subst this
  exact ⟨rfl, h⟩

end Go.Proofs.Ythkagcelpdcfkaa
