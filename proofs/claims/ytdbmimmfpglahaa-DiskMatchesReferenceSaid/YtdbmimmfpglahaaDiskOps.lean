/- Contracts of the disk's inner methods: place, at, set, settle. -/
import Derived.Test.YtdbmimmfpglahaaDisk
import Derived.StillTailTactics
import Derived.Lib.BufferWrite
namespace Go.Proofs.Ytdbmimmfpglahaa
open Go.RowKit

def ptr (d : Nat) : Value := .pointer (some ⟨d, 0, none⟩)

theorem DkAt.len {w : World} {d sb : Nat} {S : DS} {qv ap : Value} (h : DkAt w d S sb qv ap) : w.cell? ⟨d, 0, none⟩ = some (.slice (some ⟨sb, 0, none⟩) (S.n * 64) (S.n * 64)) := h.head.cell 0
theorem DkAt.queue_ {w : World} {d sb : Nat} {S : DS} {qv ap : Value} (h : DkAt w d S sb qv ap) : w.cell? ⟨d, 1, none⟩ = some qv := h.head.cell 1
theorem DkAt.off_ {w : World} {d sb : Nat} {S : DS} {qv ap : Value} (h : DkAt w d S sb qv ap) : w.cell? ⟨d, 2, none⟩ = some (.bool S.off) := h.head.cell 2
theorem DkAt.arm_ {w : World} {d sb : Nat} {S : DS} {qv ap : Value} (h : DkAt w d S sb qv ap) : w.cell? ⟨d, 3, none⟩ = some ap := h.head.cell 3

def inB (n : Nat) (s : Int) : Bool := decide (0 ≤ s ∧ s < n)
def spotV (n : Nat) (s : Int) : Value := if inB n s then .agg #[.int .i64 (s * 64), .int .i64 ((s + 1) * 64)] else .agg #[.int .i64 0, .int .i64 0]

theorem place_nil (s : Int) (w : World) :
    Calls Try.prog 34 #[.pointer none, .int .i64 s] w fun e w' => e = .returned (.tuple #[.agg #[.int .i64 0, .int .i64 0], .bool false]) ∧ Below w.heap.size w w' := by
  go_enter Try.func34, Try.ntmps34
  go_wp2
  exact bodyPost_ret (v := .tuple #[.agg #[.int .i64 0, .int .i64 0], .bool false]) (by simp [results, Try.results34, go_sem]) rfl ⟨rfl, below_alloc (Below.refl _ _) _⟩

theorem place_any (d n : Nat) (A : Option Addr) (c : Nat) (s : Int) (w : World) (h : w.cell? ⟨d, 0, none⟩ = some (.slice A (n * 64) c)) (h40 : n ≤ 4000) :
    Calls Try.prog 34 #[ptr d, .int .i64 s] w fun e w' => e = .returned (.tuple #[spotV n s, .bool (inB n s)]) ∧ Below w.heap.size w w' := by
  have hn : ((n * 64 : Nat) : Int).tdiv 64 = n := by rw [Int.tdiv_eq_ediv_of_nonneg (by omega)]; omega
  have hl := lt_of_cell h
  by_cases h0 : 0 ≤ s
  · by_cases h1 : s < n
    · have hb : inB n s = true := by simp [inB, h0, h1]
      rw [spotV, hb, ptr, if_pos rfl]
      go_enter Try.func34, Try.ntmps34
      go_wp2
      exact bodyPost_ret (v := .tuple #[.agg #[.int .i64 (s * 64), .int .i64 ((s + 1) * 64)], .bool true]) (by simp [results, Try.results34, go_sem]) rfl ⟨rfl, below_alloc (Below.refl _ _) _⟩
    · have hb : inB n s = false := by simp [inB, h1]
      rw [spotV, hb, ptr, if_neg (by simp)]
      go_enter Try.func34, Try.ntmps34
      go_wp2
      exact bodyPost_ret (v := .tuple #[.agg #[.int .i64 0, .int .i64 0], .bool false]) (by simp [results, Try.results34, go_sem]) rfl ⟨rfl, below_alloc (Below.refl _ _) _⟩
  · have hb : inB n s = false := by simp [inB, h0]
    rw [spotV, hb, ptr, if_neg (by simp)]
    go_enter Try.func34, Try.ntmps34
    go_wp2
    exact bodyPost_ret (v := .tuple #[.agg #[.int .i64 0, .int .i64 0], .bool false]) (by simp [results, Try.results34, go_sem]) rfl ⟨rfl, below_alloc (Below.refl _ _) _⟩

def errAt (off : Bool) (n : Nat) (s : Int) : Int := if off then 28 else if inB n s then 0 else 1
def atV (off : Bool) (n : Nat) (s : Int) : Value := if off then .agg #[.int .i64 0, .int .i64 0] else spotV n s

theorem at_nil (s : Int) (w : World) :
    Calls Try.prog 30 #[.pointer none, .int .i64 s] w fun e w' => e = .returned (.tuple #[.agg #[.int .i64 0, .int .i64 0], .int .i64 1]) ∧ Below w.heap.size w w' := by
  go_enter Try.func30, Try.ntmps30
  go_wp2_with fail
  refine (place_nil s _).mono ?_
  rintro e w' ⟨rfl, hb⟩
  have hl : w.heap.size < w'.heap.size := Nat.lt_of_lt_of_le (by simp) hb.size
  have hc0 := kept_cell hb (b := w.heap.size) (o := 0) (v := .int .i64 0) (by simp)
  have hc1 := kept_cell hb (b := w.heap.size) (o := 1) (v := .int .i64 0) (by simp)
  have hf0 := hb.frozen (p := ⟨w.heap.size, 0, none⟩) (by simp)
  have hf1 := hb.frozen (p := ⟨w.heap.size, 1, none⟩) (by simp)
  go_wp2
  exact bodyPost_ret (v := .tuple #[.agg #[.int .i64 0, .int .i64 0], .int .i64 1]) (by simp [results, Try.results30, go_sem, *]) rfl ⟨rfl, below_alloc (((below_trans (below_alloc (Below.refl _ _) _) hb).setCell (p := ⟨w.heap.size, 0, none⟩) (Nat.le_refl _) _).setCell (p := ⟨w.heap.size, 1, none⟩) (Nat.le_refl _) _) _⟩

theorem at_any (d n : Nat) (A : Option Addr) (c : Nat) (off : Bool) (s : Int) (w : World) (h : w.cell? ⟨d, 0, none⟩ = some (.slice A (n * 64) c)) (h2 : w.cell? ⟨d, 2, none⟩ = some (.bool off)) (h40 : n ≤ 4000) :
    Calls Try.prog 30 #[ptr d, .int .i64 s] w fun e w' => e = .returned (.tuple #[atV off n s, .int .i64 (errAt off n s)]) ∧ Below w.heap.size w w' := by
  have hl0 := lt_of_cell h
  cases off with
  | true =>
    rw [atV, errAt, if_pos rfl, if_pos rfl, ptr]
    go_enter Try.func30, Try.ntmps30
    go_wp2
    exact bodyPost_ret (v := .tuple #[.agg #[.int .i64 0, .int .i64 0], .int .i64 28]) (by simp [results, Try.results30, go_sem, *]) rfl ⟨rfl, below_alloc (Below.refl _ _) _⟩
  | false =>
    have H := Lib.hid (place_any d n A c s (w.alloc (.cells #[.int .i64 0, .int .i64 0] 55)) (by rw [World.cell?_alloc_past (hn := hl0)]; exact h) h40)
    cases hB : inB n s with
    | true =>
      rw [atV, errAt, if_neg (by simp), if_neg (by simp), if_pos hB, spotV, if_pos hB]
      rw [spotV, if_pos hB, hB] at H
      unfold ptr at H ⊢
      go_enter Try.func30, Try.ntmps30
      go_wp2_with fail
      refine H.out.mono ?_
      rintro e w' ⟨rfl, hb⟩
      have hl : w.heap.size < w'.heap.size := Nat.lt_of_lt_of_le (by simp) hb.size
      have hc0 := kept_cell hb (b := w.heap.size) (o := 0) (v := .int .i64 0) (by simp)
      have hc1 := kept_cell hb (b := w.heap.size) (o := 1) (v := .int .i64 0) (by simp)
      have hf0 := hb.frozen (p := ⟨w.heap.size, 0, none⟩) (by simp)
      have hf1 := hb.frozen (p := ⟨w.heap.size, 1, none⟩) (by simp)
      go_wp2
      exact bodyPost_ret (v := .tuple #[.agg #[.int .i64 (s * 64), .int .i64 ((s + 1) * 64)], .int .i64 0]) (by simp [results, Try.results30, go_sem, *]) rfl ⟨rfl, below_alloc (((below_trans (below_alloc (Below.refl _ _) _) hb).setCell (p := ⟨w.heap.size, 0, none⟩) (Nat.le_refl _) _).setCell (p := ⟨w.heap.size, 1, none⟩) (Nat.le_refl _) _) _⟩
    | false =>
      have hB' : ¬ inB n s = true := by simp [hB]
      rw [atV, errAt, if_neg (by simp), if_neg (by simp), if_neg hB', spotV, if_neg hB']
      rw [spotV, if_neg hB', hB] at H
      unfold ptr at H ⊢
      go_enter Try.func30, Try.ntmps30
      go_wp2_with fail
      refine H.out.mono ?_
      rintro e w' ⟨rfl, hb⟩
      have hl : w.heap.size < w'.heap.size := Nat.lt_of_lt_of_le (by simp) hb.size
      have hc0 := kept_cell hb (b := w.heap.size) (o := 0) (v := .int .i64 0) (by simp)
      have hc1 := kept_cell hb (b := w.heap.size) (o := 1) (v := .int .i64 0) (by simp)
      have hf0 := hb.frozen (p := ⟨w.heap.size, 0, none⟩) (by simp)
      have hf1 := hb.frozen (p := ⟨w.heap.size, 1, none⟩) (by simp)
      go_wp2
      exact bodyPost_ret (v := .tuple #[.agg #[.int .i64 0, .int .i64 0], .int .i64 1]) (by simp [results, Try.results30, go_sem, *]) rfl ⟨rfl, below_alloc (((below_trans (below_alloc (Below.refl _ _) _) hb).setCell (p := ⟨w.heap.size, 0, none⟩) (Nat.le_refl _) _).setCell (p := ⟨w.heap.size, 1, none⟩) (Nat.le_refl _) _) _⟩

end Go.Proofs.Ytdbmimmfpglahaa
