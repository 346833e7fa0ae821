/- digest: take. -/
import Derived.Test.YtbefcipeojahfaaGreatDoorChg
namespace Go.Proofs.YtbefcipeojahfaaGreatDoor
open Go.RowKit

/-! ### a block's number; mixing -/
def blk64 (l : List UInt8) : UInt64 := l.foldl (fun n b => n <<< 8 ||| b.toUInt64) 0
def mix64 (x : UInt64) : UInt64 :=
  let x := (x ^^^ x >>> 31) * 14029467366897019727
  let x := (x ^^^ x >>> 27) * 11400714785074694791
  x ^^^ x >>> 33

/-! ### 64-bit numbers as the walk spells them -/
theorem wrap_u64 (n : Int) : IntKind.u64.wrap n = n % 18446744073709551616 := by
  simp [IntKind.wrap, IntKind.bits, IntKind.signed]
theorem ofInt_u64 (a : UInt64) : (BitVec.ofInt 64 (a.toNat : Int)) = a.toBitVec := by
  apply BitVec.eq_of_toNat_eq
  rw [BitVec.ofInt_natCast, BitVec.toNat_ofNat]
  exact Nat.mod_eq_of_lt a.toNat_lt
theorem cast_u64 (a : UInt64) : IntKind.u64.wrap (a.toNat : Int) = (a.toNat : Int) := by
  have := a.toNat_lt
  rw [wrap_u64]; omega
theorem bits_xor_u64 (a b : UInt64) : bits .xor .u64 (a.toNat : Int) (b.toNat : Int) = ((a ^^^ b).toNat : Int) := by
  show IntKind.u64.wrap ((BitVec.ofInt 64 (a.toNat : Int) ^^^ BitVec.ofInt 64 (b.toNat : Int)).toNat : Int) = _
  rw [ofInt_u64, ofInt_u64]
  exact cast_u64 (a ^^^ b)
theorem bits_or_u64 (a b : UInt64) : bits .or .u64 (a.toNat : Int) (b.toNat : Int) = ((a ||| b).toNat : Int) := by
  show IntKind.u64.wrap ((BitVec.ofInt 64 (a.toNat : Int) ||| BitVec.ofInt 64 (b.toNat : Int)).toNat : Int) = _
  rw [ofInt_u64, ofInt_u64]
  exact cast_u64 (a ||| b)
theorem shr_u64 (a : UInt64) (k m : Nat) (hk : k < 64) (hm : 2 ^ k = m) : ((a.toNat : Int) / (m : Int)) = ((a >>> (UInt64.ofNat k)).toNat : Int) := by
  rw [UInt64.toNat_shiftRight, UInt64.toNat_ofNat', Nat.mod_eq_of_lt (show k < 2 ^ 64 by omega), Nat.mod_eq_of_lt hk, Nat.shiftRight_eq_div_pow, hm]
  rfl
theorem mul_u64 (a b : UInt64) (c : Int) (hc : (b.toNat : Int) = c) : IntKind.u64.wrap ((a.toNat : Int) * c) = ((a * b).toNat : Int) := by
  rw [wrap_u64, UInt64.toNat_mul, ← hc]
  omega
theorem u8_u64 (c : UInt8) : IntKind.u64.wrap (c.toNat : Int) = (c.toUInt64.toNat : Int) := by
  have := c.toNat_lt
  rw [wrap_u64, UInt8.toNat_toUInt64]; omega
theorem shl8_u64 (a : UInt64) : IntKind.u64.wrap ((a.toNat : Int) * 256) = ((a <<< 8).toNat : Int) := by
  rw [wrap_u64, UInt64.toNat_shiftLeft, Nat.shiftLeft_eq]
  have e : (8 : UInt64).toNat % 64 = 8 := rfl
  rw [e]
  omega

theorem blk_snoc (l : List UInt8) (c : UInt8) : blk64 (l ++ [c]) = blk64 l <<< 8 ||| c.toUInt64 := by
  simp [blk64]

theorem mix_walk (x : UInt64) : bits .xor .u64 (IntKind.u64.wrap (bits .xor .u64 (IntKind.u64.wrap (bits .xor .u64 (x.toNat : Int) ((x.toNat : Int) / 2147483648) * 14029467366897019727)) (IntKind.u64.wrap (bits .xor .u64 (x.toNat : Int) ((x.toNat : Int) / 2147483648) * 14029467366897019727) / 134217728) * 11400714785074694791))
    (IntKind.u64.wrap (bits .xor .u64 (IntKind.u64.wrap (bits .xor .u64 (x.toNat : Int) ((x.toNat : Int) / 2147483648) * 14029467366897019727)) (IntKind.u64.wrap (bits .xor .u64 (x.toNat : Int) ((x.toNat : Int) / 2147483648) * 14029467366897019727) / 134217728) * 11400714785074694791) / 8589934592) = ((mix64 x).toNat : Int) := by
  have s31 (a : UInt64) : (a.toNat : Int) / (2147483648 : Int) = ((a >>> 31).toNat : Int) := shr_u64 a 31 2147483648 (by omega) (by decide)
  have s27 (a : UInt64) : (a.toNat : Int) / (134217728 : Int) = ((a >>> 27).toNat : Int) := shr_u64 a 27 134217728 (by omega) (by decide)
  have s33 (a : UInt64) : (a.toNat : Int) / (8589934592 : Int) = ((a >>> 33).toNat : Int) := shr_u64 a 33 8589934592 (by omega) (by decide)
  have m1 (a : UInt64) : IntKind.u64.wrap ((a.toNat : Int) * 14029467366897019727) = ((a * 14029467366897019727).toNat : Int) := mul_u64 a 14029467366897019727 _ rfl
  have m2 (a : UInt64) : IntKind.u64.wrap ((a.toNat : Int) * 11400714785074694791) = ((a * 11400714785074694791).toNat : Int) := mul_u64 a 11400714785074694791 _ rfl
  rw [s31, bits_xor_u64, m1, s27, bits_xor_u64, m2, s33, bits_xor_u64]
  rfl

theorem mix_walk_ (s n : UInt64) : bits .xor .u64 (IntKind.u64.wrap (bits .xor .u64 (IntKind.u64.wrap (bits .xor .u64 (bits .xor .u64 (s.toNat : Int) (n.toNat : Int)) (bits .xor .u64 (s.toNat : Int) (n.toNat : Int) / 2147483648) * 14029467366897019727)) (IntKind.u64.wrap (bits .xor .u64 (bits .xor .u64 (s.toNat : Int) (n.toNat : Int)) (bits .xor .u64 (s.toNat : Int) (n.toNat : Int) / 2147483648) * 14029467366897019727) / 134217728) * 11400714785074694791))
    (IntKind.u64.wrap (bits .xor .u64 (IntKind.u64.wrap (bits .xor .u64 (bits .xor .u64 (s.toNat : Int) (n.toNat : Int)) (bits .xor .u64 (s.toNat : Int) (n.toNat : Int) / 2147483648) * 14029467366897019727)) (IntKind.u64.wrap (bits .xor .u64 (bits .xor .u64 (s.toNat : Int) (n.toNat : Int)) (bits .xor .u64 (s.toNat : Int) (n.toNat : Int) / 2147483648) * 14029467366897019727) / 134217728) * 11400714785074694791) / 8589934592) = ((mix64 (s ^^^ n)).toNat : Int) := by
  rw [bits_xor_u64 s n, mix_walk]

set_option maxRecDepth 100000 in
set_option maxHeartbeats 4000000 in
theorem take_any (b : Nat) (s : UInt64) (c0 c1 c2 c3 c4 c5 c6 c7 : UInt8) (w : World) (h : w.cell? ⟨b, 0, none⟩ = some (.int .u64 s.toNat)) (hf : w.frozen? ⟨b, 0, none⟩ = false) :
    Calls Tryz.prog 91 #[.pointer (some ⟨b, 0, none⟩), .agg #[.int .u8 c0.toNat, .int .u8 c1.toNat, .int .u8 c2.toNat, .int .u8 c3.toNat, .int .u8 c4.toNat, .int .u8 c5.toNat, .int .u8 c6.toNat, .int .u8 c7.toNat]] w fun e w' => e = .returned (.tuple #[]) ∧
      Chg [b] w w' ∧ w'.cell? ⟨b, 0, none⟩ = some (.int .u64 (mix64 (s ^^^ blk64 [c0, c1, c2, c3, c4, c5, c6, c7])).toNat) ∧ w'.frozen? ⟨b, 0, none⟩ = false := by
  have hl := lt_of_cell h
  obtain ⟨bs, hbs⟩ : ∃ bs, [c0, c1, c2, c3, c4, c5, c6, c7] = bs := ⟨_, rfl⟩
  have HBS := Lib.hid hbs
  rw [hbs]
  clear hbs
  obtain ⟨wa, hwa⟩ : ∃ wa, w.alloc (.cells #[.int .u8 c0.toNat, .int .u8 c1.toNat, .int .u8 c2.toNat, .int .u8 c3.toNat, .int .u8 c4.toNat, .int .u8 c5.toNat, .int .u8 c6.toNat, .int .u8 c7.toNat] 114) = wa := ⟨_, rfl⟩
  have HC : Hid (∀ (k : Nat) (c : UInt8), bs[k]? = some c → wa.cell? ⟨w.heap.size, k, none⟩ = some (.int .u8 c.toNat)) := Lib.hid (fun k c hc => by
    rw [← hwa, World.cell?_alloc_at _ _ _ _ rfl]
    have e : #[Value.int .u8 c0.toNat, .int .u8 c1.toNat, .int .u8 c2.toNat, .int .u8 c3.toNat, .int .u8 c4.toNat, .int .u8 c5.toNat, .int .u8 c6.toNat, .int .u8 c7.toNat] = (bs.map fun c => Value.int .u8 c.toNat).toArray := by rw [← HBS.out]; rfl
    rw [e, List.getElem?_toArray, List.getElem?_map, hc]; rfl)
  have hb1 : Chg [b] w wa := by rw [← hwa]; exact (Chg.refl [b] w).alloc _
  have hc1 : wa.cell? ⟨b, 0, none⟩ = some (.int .u64 s.toNat) := by rw [← hwa, World.cell?_alloc_lt _ _ _ hl]; exact h
  have hf1 : wa.frozen? ⟨b, 0, none⟩ = false := by rw [← hwa, World.frozen?_alloc_old _ _ _ (Nat.ne_of_lt hl)]; exact hf
  have HB1 := Lib.hid hb1
  have HWA := Lib.hid hwa
  have hlb := lt_of_cell hc1
  clear hb1 hwa h hf
  go_enter Tryz.func91, Tryz.ntmps91
  go_wp2_with fail
  rw [HWA.out]
  go_loop [4, 7] (fun u4 u7 => ∃ k : Nat, k ≤ 8 ∧ u7 = .int .i64 k ∧ u4 = .int .u64 (blk64 (bs.take k)).toNat) (fun _ u7 => 8 - (intOf u7).toNat)
  case atStart => exact ⟨0, Nat.zero_le _, rfl, rfl⟩
  case round =>
  obtain ⟨k, hk, rfl, rfl⟩ := hrel
  by_cases hlt : k < 8
  · obtain ⟨c, hc⟩ : ∃ c, bs[k]? = some c := by rw [← HBS.out]; exact get_some _ k hlt
    have hcell := HC.out k c hc
    have HSN := Lib.hid (take_snoc bs k c hc)
    obtain ⟨n, hn⟩ : ∃ n, blk64 (bs.take k) = n := ⟨_, rfl⟩
    rw [hn]
    have HN := Lib.hid hn
    clear hn hc
    go_wp2_with fail
    go_round
    case rel => exact ⟨k + 1, by omega, by go_num, by rw [shl8_u64, u8_u64, bits_or_u64, HSN.out, blk_snoc, HN.out]⟩
    case measure => simp [intOf]; omega
  · obtain rfl : k = 8 := by omega
    obtain ⟨n, hn⟩ : ∃ n, blk64 (bs.take 8) = n := ⟨_, rfl⟩
    rw [hn]
    have HN := Lib.hid hn
    clear hn
    have HE : Hid (blk64 bs = n) := Lib.hid (by rw [← HN.out, List.take_of_length_le]; rw [← HBS.out]; exact Nat.le_refl _)
    go_wp2_with fail
    go_end0
    rw [mix_walk_ s n, HE.out]
    generalize mix64 (s ^^^ n) = X
    refine ⟨rfl, HB1.out.setCell (.inl (List.mem_cons_self)) _, World.cell?_setCell_same _ _ _ hc1, ?_⟩
    rw [World.frozen?_setCell]; exact hf1

end Go.Proofs.YtbefcipeojahfaaGreatDoor
