/- Contracts of the helpers of observatorylaw07: element, made, chosen. -/
import Derived.Test.YtbefcipeojahfaaGreatDoorJoin
namespace Go.Proofs.YtbefcipeojahfaaGreatDoor
open Go.RowKit

theorem lelement_any (a : Int) (w : World) :
    Calls Tryz.prog 17 #[.int .i64 a] w fun e w' => e = .returned (.int .i64 (a % 2147483647)) ∧ w = w' := by
  have h : a.tmod 2147483647 = if 0 ≤ a then a % 2147483647 else -((-a) % 2147483647) := by
    by_cases ha : 0 ≤ a
    · rw [if_pos ha, Int.tmod_eq_emod_of_nonneg ha]
    · rw [if_neg ha, ← Int.tmod_eq_emod_of_nonneg (show 0 ≤ -a by omega), Int.neg_tmod, Int.neg_neg]
  have hb : -2147483647 < a.tmod 2147483647 ∧ a.tmod 2147483647 < 2147483647 := by rw [h]; split <;> omega
  obtain ⟨hb1, hb2⟩ := hb
  by_cases hneg : a.tmod 2147483647 < 0
  · have e : a.tmod 2147483647 + 2147483647 = a % 2147483647 := by rw [h] at hneg ⊢; split at hneg <;> (try split) <;> omega
    have E := Lib.hid e; clear e
    have H := Lib.hid h; clear h
    go_enter Tryz.func17, Tryz.ntmps17
    go_wp2
    go_ret
    exact ⟨ret_int E.out, rfl⟩
  · have e : a.tmod 2147483647 = a % 2147483647 := by rw [h] at hneg ⊢; split at hneg <;> (try split) <;> omega
    have E := Lib.hid e; clear e
    have H := Lib.hid h; clear h
    go_enter Tryz.func17, Tryz.ntmps17
    go_wp2
    go_ret
    exact ⟨ret_int E.out, rfl⟩

/-- The elements that made takes out of a list. -/
def madeL (raw : List Int) (k : Nat) : List Int := (List.range k).map fun (i : Nat) => match raw[i]? with | some x => x % 2147483647 | none => (i : Int)

theorem madeL_length (raw : List Int) (k : Nat) : (madeL raw k).length = k := by simp [madeL]
theorem madeL_succ (raw : List Int) (k : Nat) : madeL raw (k + 1) = madeL raw k ++ [match raw[k]? with | some x => x % 2147483647 | none => (k : Int)] := by
  simp [madeL, List.range_succ]
theorem madeL_elem (raw : List Int) (k : Nat) (hk : k ≤ 1000) : (madeL raw k).all elemB = true := by
  rw [List.all_eq_true]
  intro x hx
  obtain ⟨i, hi, rfl⟩ := List.mem_map.1 hx
  have := List.mem_range.1 hi
  rw [elemB_iff]
  split <;> omega

set_option maxRecDepth 100000 in
set_option maxHeartbeats 1600000 in
theorem made_any (A : Option Addr) (c : Nat) (raw : List Int) (a b : Nat) (w : World) (hA : Ints w A raw) (hraw : raw.length ≤ 9223372036854775807) (ha : a < 256) (hb : b < 256) :
    Calls Tryz.prog 16 #[.slice A raw.length c, .int .u8 a, .int .u8 b] w fun e w' =>
      ∃ v, e = .returned (.tuple #[.int .i64 ((1 + a % 6 : Nat) : Int), .int .i64 ((1 + a % 6 + b % (9 - (1 + a % 6)) : Nat) : Int), v]) ∧
        w'.ownsRow w.heap.size 3 1 v (a % 6) ((madeL raw (a % 6)).map (Value.int .i64)) ∧ Below w.heap.size w w' := by
  have HA := Lib.hid hA; clear hA
  obtain ⟨i0, hi0, hz0, hz1, hz2⟩ := info_parts info_int
  have HI := Lib.hid (And.intro hi0 (And.intro hz0 (And.intro hz1 hz2)))
  clear hi0 hz0 hz1 hz2
  have hd1 : (0 : Int) < 9 - (1 + (a : Int) % 6) := by omega
  have hm0 : 0 ≤ (b : Int) % (9 - (1 + (a : Int) % 6)) := Int.emod_nonneg _ (by omega)
  have hm1 : (b : Int) % (9 - (1 + (a : Int) % 6)) < 9 := Int.lt_of_lt_of_le (Int.emod_lt_of_pos _ hd1) (by omega)
  have hE : (((1 + a % 6 : Nat) : Int) = 1 + (a : Int) % 6) ∧ (((1 + a % 6 + b % (9 - (1 + a % 6)) : Nat) : Int) = 1 + (a : Int) % 6 + (b : Int) % (9 - (1 + (a : Int) % 6))) := by
    have h9 : ((9 - (1 + a % 6) : Nat) : Int) = 9 - (1 + (a : Int) % 6) := by omega
    constructor
    · omega
    · rw [← h9, ← Int.natCast_emod]; omega
  have HE := Lib.hid hE; clear hE
  go_enter Tryz.func16, Tryz.ntmps16
  go_wp2_with fail
  go_loopw [11, 12, 13] (fun u11 u12 _ wr => ∃ k : Nat, k ≤ a % 6 ∧ u12 = .int .i64 k ∧ Below w.heap.size w wr ∧ wr.ownsRow w.heap.size 3 1 u11 k ((madeL raw k).map (Value.int .i64))) (fun _ u12 _ _ => 6 - (intOf u12).toNat)
  case atStart => exact ⟨0, Nat.zero_le _, rfl, Below.refl _ _, World.ownsRow_nil _ _ _ _⟩
  case round =>
    obtain ⟨k, hk, rfl, hB, hO⟩ := hrel
    have HB := Lib.hid hB; clear hB
    have HO := Lib.hid hO; clear hO
    by_cases hlt : k < a % 6
    · by_cases hlr : k < raw.length
      · obtain ⟨x, hx⟩ := get_some raw k hlr
        obtain ⟨bb, off, rfl, hcell⟩ := (HA.out.below HB.out).at_ hx
        have HX := Lib.hid hx; clear hx
        go_wp2_with (first | (go_at_call 17; refine (lelement_any _ _).mono ?_; rintro e w' ⟨rfl, rfl⟩) | (at_builtin; refine wpList_app _ rfl (.tmp 41) (.tmp 43) 22 22 rfl w.heap.size 3 3 i0 _ 1 8 Tryz.underlying22 Tryz.underlying22 HI.out.1 HI.out.2.1 HI.out.2.2.1 HI.out.2.2.2 rfl (by omega) _ k _ rfl (HO.out.alloc _) _ 1 1 [.int .i64 (x % 2147483647)] rfl (Rd_new wr #[.int .i64 (x % 2147483647)] _ 1 1 _ rfl rfl) (by simp [Value.oneCell']) (by simp only [maxLen]; omega) (by omega) (by have := HB.out.size; simp; omega) ?_))
        intro v1 w4 hown4 hg4
        have hB4 : Below w.heap.size w w4 := (below_alloc HB.out _).grown hg4 (by have := HB.out.size; simp; omega) (fun j hj => (HO.out.lt j hj).1)
        have e4 : (madeL raw k).map (Value.int .i64) ++ [.int .i64 (x % 2147483647)] = (madeL raw (k + 1)).map (Value.int .i64) := by rw [madeL_succ, HX.out]; simp
        rw [e4] at hown4
        have HOWN4 := Lib.hid hown4
        have HB4 := Lib.hid hB4
        clear hown4 hB4 hg4 e4
        go_wp2
        go_roundw
        case rel => exact ⟨k + 1, by omega, by go_num, HB4.out, HOWN4.out⟩
        case measure => simp [intOf]; omega
      · go_wp2_with (at_builtin; refine wpList_app _ rfl (.tmp 41) (.tmp 43) 22 22 rfl w.heap.size 3 3 i0 _ 1 8 Tryz.underlying22 Tryz.underlying22 HI.out.1 HI.out.2.1 HI.out.2.2.1 HI.out.2.2.2 rfl (by omega) _ k _ rfl (HO.out.alloc _) _ 1 1 [.int .i64 k] rfl (Rd_new wr #[.int .i64 k] _ 1 1 _ rfl rfl) (by simp [Value.oneCell']) (by simp only [maxLen]; omega) (by omega) (by have := HB.out.size; simp; omega) ?_)
        intro v1 w4 hown4 hg4
        have hB4 : Below w.heap.size w w4 := (below_alloc HB.out _).grown hg4 (by have := HB.out.size; simp; omega) (fun j hj => (HO.out.lt j hj).1)
        have e4 : (madeL raw k).map (Value.int .i64) ++ [.int .i64 (k : Int)] = (madeL raw (k + 1)).map (Value.int .i64) := by rw [madeL_succ, List.getElem?_eq_none (by omega)]; simp
        rw [e4] at hown4
        have HOWN4 := Lib.hid hown4
        have HB4 := Lib.hid hB4
        clear hown4 hB4 hg4 e4
        go_wp2
        go_roundw
        case rel => exact ⟨k + 1, by omega, by go_num, HB4.out, HOWN4.out⟩
        case measure => simp [intOf]; omega
    · have hka : k = a % 6 := by omega
      have HKA := Lib.hid hka; clear hka
      go_wp2
      go_ret3
      rw [HE.out.1, HE.out.2, ← HKA.out]
      exact ⟨_, rfl, HO.out, HB.out⟩



end Go.Proofs.YtbefcipeojahfaaGreatDoor
