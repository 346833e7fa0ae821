/- strconv.FormatUint at base 16. -/
import Derived.Test.YtbefcipeojahfaaGreatDoorBlocks01
import Derived.Deep.Cut
namespace Go.Proofs.YtbefcipeojahfaaGreatDoor
open Go.RowKit

/-- The table's one entry that is read. -/
def Tab64 (w : World) : Prop := w.cell? ⟨5, 15, none⟩ = some (.int .u8 4)
theorem Tab64.below {w w' : World} (h : Tab64 w) (hb : Below w.heap.size w w') : Tab64 w' := kept_cell hb h

theorem tz64 (w : World) (h : Tab64 w) : Calls Tryz.prog 130 #[.int .u64 16] w fun e w' => e = .returned (.int .i64 4) ∧ w = w' := by
  unfold Tab64 at h
  have e1 : IntKind.u64.wrap (bits BinOp.and IntKind.u64 16 (IntKind.u64.wrap (-16)) * 285870213051353865) / 288230376151711744 = 15 := by kernel_rfl
  go_enter Tryz.func130, Tryz.ntmps130
  go_wp2
  go_ret
  exact ⟨rfl, rfl⟩

theorem tz (w : World) (h : Tab64 w) : Calls Tryz.prog 124 #[.int .u64 16] w fun e w' => e = .returned (.int .i64 4) ∧ w = w' := by
  go_enter Tryz.func124, Tryz.ntmps124
  go_wp2_with fail
  refine (tz64 _ h).mono ?_
  rintro e w' ⟨rfl, rfl⟩
  go_wp2
  go_ret
  exact ⟨rfl, rfl⟩

theorem pow2 (w : World) : Calls Tryz.prog 123 #[.int .i64 16] w fun e w' => e = .returned (.bool true) ∧ w = w' := by
  have e1 : (bits BinOp.and IntKind.i64 16 15 == 0) = true := by kernel_rfl
  go_enter Tryz.func123, Tryz.ntmps123
  go_wp2
  go_ret
  exact ⟨rfl, rfl⟩

/-! ### the digits -/
def hexd (n : Nat) : UInt8 := if n < 10 then UInt8.ofNat (48 + n) else UInt8.ofNat (87 + n)
/-- The lowest k digits, the highest first. -/
def hexk (u : Nat) : Nat → List UInt8
  | 0 => []
  | k + 1 => hexd (u / 16 ^ k % 16) :: hexk u k
theorem hexk_len (u k : Nat) : (hexk u k).length = k := by
  induction k with
  | zero => rfl
  | succ k ih => simp [hexk, ih]
def digs : ByteArray := ⟨#[48, 49, 50, 51, 52, 53, 54, 55, 56, 57, 97, 98, 99, 100, 101, 102, 103, 104, 105, 106, 107, 108, 109, 110, 111, 112, 113, 114, 115, 116, 117, 118, 119, 120, 121, 122]⟩

/-- The number of digits. -/
def hexn (u : Nat) : Nat := if h : u < 16 then 1 else hexn (u / 16) + 1
termination_by u
decreasing_by omega

theorem hexn_eq (k : Nat) : ∀ u, (∀ j, j < k → 16 ≤ u / 16 ^ j) → u / 16 ^ k < 16 → hexn u = k + 1 := by
  induction k with
  | zero =>
    intro u _ h
    rw [hexn, dif_pos (by simpa using h)]
  | succ k ih =>
    intro u h1 h2
    have h0 := h1 0 (by omega)
    rw [Nat.pow_zero, Nat.div_one] at h0
    rw [hexn, dif_neg (by omega), ih (u / 16) (fun j hj => by
      rw [Nat.div_div_eq_div_mul, ← Nat.pow_succ']; exact h1 (j + 1) (by omega)) (by
      rw [Nat.div_div_eq_div_mul, ← Nat.pow_succ']; exact h2)]
theorem hex_few (u k : Nat) (hu : u < 18446744073709551616) (h : 16 ≤ u / 16 ^ k) : k ≤ 14 := by
  have h1 : 16 * 16 ^ k ≤ u := by
    have := Nat.mul_le_of_le_div _ _ _ h
    exact this
  rw [← Nat.pow_succ'] at h1
  have h3 : (16 : Nat) ^ 16 = 18446744073709551616 := by decide
  have h2 : 16 ^ (k + 1) < 16 ^ 16 := Nat.lt_of_le_of_lt h1 (by rw [h3]; exact hu)
  have := (Nat.pow_lt_pow_iff_right (by omega : 1 < 16)).1 h2
  omega
/-- The array while it is filled from behind: j zeros, then the digits. -/
def fill65 (j : Nat) (l : List UInt8) : List UInt8 := List.replicate j 0 ++ l
def u8c (l : List UInt8) : List Value := l.map fun b => .int .u8 b.toNat
theorem zeros65 : Tryz.zeroCells137 = (u8c (fill65 65 [])).toArray := by rfl
theorem fill_at (j : Nat) (l : List UInt8) : (u8c (fill65 (j + 1) l)).toArray[j]? = some (.int .u8 0) := by
  rw [List.getElem?_toArray, u8c, List.getElem?_map, fill65, List.getElem?_append_left (by simp), List.getElem?_replicate_of_lt (by omega)]
  rfl
theorem fill_set (j : Nat) (l : List UInt8) (d : UInt8) : (u8c (fill65 (j + 1) l)).toArray.setIfInBounds j (.int .u8 d.toNat) = (u8c (fill65 j (d :: l))).toArray := by
  rw [List.setIfInBounds_toArray]
  congr 1
  unfold u8c fill65
  rw [← List.map_set]
  congr 1
  rw [List.set_append_left _ _ (by simp), List.replicate_succ', List.set_append_right _ _ (by simp)]
  simp
theorem digs_at (d : Nat) (h : d < 16) : ∀ (hd : d < digs.size), digs[d] = hexd d := by
  intro hd
  match d, h with
  | 0, _ => rfl
  | 1, _ => rfl
  | 2, _ => rfl
  | 3, _ => rfl
  | 4, _ => rfl
  | 5, _ => rfl
  | 6, _ => rfl
  | 7, _ => rfl
  | 8, _ => rfl
  | 9, _ => rfl
  | 10, _ => rfl
  | 11, _ => rfl
  | 12, _ => rfl
  | 13, _ => rfl
  | 14, _ => rfl
  | 15, _ => rfl
  | d + 16, h => omega

theorem conv_any (w : World) (g : Nat) (T : TypeId) (l : List UInt8) (h : Blk w g T (u8c l).toArray) (lo n cap : Nat) (hlo : lo + n ≤ l.length) :
    (convert 66 9 (.slice (some ⟨g, lo, none⟩) n cap)).run Tryz.prog w = .ok (.string ⟨((l.drop lo).take n).toArray⟩) w := by
  have hl : ((l.drop lo).take n).length = n := by simp; omega
  have := run_convert_bytes_back (P := Tryz.prog) w 66 9 5 ⟨g, lo, none⟩ cap ((l.drop lo).take n) Tryz.underlying66 Tryz.underlying5 Tryz.underlying9 (by
    intro j hj
    rw [Addr.add_lit, h.cell]
    simp only [u8c, List.getElem?_toArray, List.getElem?_map, List.getElem_take, List.getElem_drop]
    rw [List.getElem?_eq_getElem (by rw [hl] at hj; omega)]
    rfl)
  rw [hl] at this
  exact this

theorem bits_and15 (u : Nat) (h : u < 18446744073709551616) : bits .and .u64 (u : Int) 15 = ((u % 16 : Nat) : Int) := by
  have h1 : (BitVec.ofInt 64 (u : Int)).toNat = u := by
    rw [BitVec.ofInt_natCast, BitVec.toNat_ofNat]; exact Nat.mod_eq_of_lt (by omega)
  show IntKind.u64.wrap ((BitVec.ofInt 64 (u : Int) &&& BitVec.ofInt 64 (15 : Int)).toNat : Int) = _
  rw [BitVec.toNat_and, h1]
  have h2 : (BitVec.ofInt 64 (15 : Int)).toNat = 2 ^ 4 - 1 := by decide
  rw [h2, Nat.and_two_pow_sub_one_eq_mod, wrap_u64]
  omega

set_option maxRecDepth 100000 in
set_option maxHeartbeats 8000000 in
theorem fmtbits (u : Nat) (hu : u < 18446744073709551616) (w : World) (h : Tab64 w) :
    Calls Tryz.prog 111 #[.slice none 0 0, .int .u64 u, .int .i64 16, .bool false, .bool false] w fun e w' => e = .returned (.tuple #[.slice none 0 0, .string ⟨(hexk u (hexn u)).toArray⟩]) ∧ Below w.heap.size w w' := by
  have HT := Lib.hid h
  clear h
  go_enter Tryz.func111, Tryz.ntmps111
  go_wp2_with fail
  refine (pow2 _).mono ?_
  rintro e w1 ⟨rfl, rfl⟩
  go_wp2_with fail
  refine (tz _ (HT.out.below (below_alloc (Below.refl _ _) _))).mono ?_
  rintro e w1 ⟨rfl, rfl⟩
  obtain ⟨g, hg⟩ : ∃ g, w.heap.size = g := ⟨_, rfl⟩
  obtain ⟨wa, hwa⟩ : ∃ wa, w.alloc (.cells Tryz.zeroCells137 137) = wa := ⟨_, rfl⟩
  have HB : Hid (Blk wa g 137 (u8c (fill65 65 [])).toArray) := Lib.hid (by rw [← hwa, ← hg, ← zeros65]; exact Blk.new _ _ _ _ rfl)
  have HW : Hid (Below w.heap.size w wa) := Lib.hid (by rw [← hwa]; exact below_alloc (Below.refl _ _) _)
  have HWA := Lib.hid hwa
  have HGE := Lib.hid hg
  clear hwa hg
  go_wp2_with fail
  rw [HWA.out, HGE.out]
  go_loopw [1, 13] (fun u1 u13 wr => ∃ (k i : Nat), i + k = 65 ∧ u13 = .int .i64 (i : Int) ∧ u1 = .int .u64 ((u / 16 ^ k : Nat) : Int) ∧ (∀ j, j < k → 16 ≤ u / 16 ^ j) ∧ Blk wr g 137 (u8c (fill65 i (hexk u k))).toArray ∧ Below w.heap.size w wr) (fun _ u13 _ => (intOf u13).toNat)
  case atStart => exact ⟨0, 65, rfl, rfl, by simp, by omega, HB.out, HW.out⟩
  case round =>
  obtain ⟨k, i, hik, rfl, rfl, hall, hb, hw⟩ := hrel
  have HALL := Lib.hid hall
  have HBK := Lib.hid hb
  have HBE := Lib.hid hw
  clear hall hb hw
  have hk15 : k ≤ 15 := by
    rcases Nat.eq_zero_or_pos k with h0 | h0
    · omega
    · have := hex_few u (k - 1) hu (HALL.out (k - 1) (by omega))
      omega
  obtain ⟨j, rfl⟩ : ∃ j, i = j + 1 := ⟨i - 1, by omega⟩
  rw [show (((j + 1 : Nat)) : Int) = (j : Int) + 1 from by omega]
  obtain ⟨x, hx⟩ : ∃ x, u / 16 ^ k = x := ⟨_, rfl⟩
  have hxu : x < 18446744073709551616 := by rw [← hx]; exact Nat.lt_of_le_of_lt (Nat.div_le_self _ _) hu
  have c0 : wr.cell? ⟨g, j, none⟩ = some (.int .u8 0) := HBK.out.of_cell (fill_at j _)
  have f0 : wr.frozen? ⟨g, j, none⟩ = false := HBK.out.frozen j
  have hgl := lt_of_cell c0
  rw [hx]
  have HX := Lib.hid hx
  clear hx
  by_cases hgo : 16 ≤ x
  · obtain ⟨d, hd⟩ : ∃ d, x % 16 = d := ⟨_, rfl⟩
    have hd16 : d < 16 := by omega
    have e1 : bits .and .u64 (x : Int) 15 = (d : Int) := by rw [bits_and15 x hxu, hd]
    have HDI := Lib.hid (digs_at d hd16)
    have HDX := Lib.hid hd
    clear hd
    go_wp2_with fail
    go_roundw
    case rel =>
      have hd2 : d < digs.size := by have : digs.size = 36 := rfl; omega
      have hb2 := HBK.out.set j (.int .u8 (digs[d]).toNat)
      have e2 : (Value.int .u8 ((digs[d]).toNat : Int)) = .int .u8 ((hexd d).toNat : Int) := by rw [HDI.out hd2]
      refine ⟨k + 1, j, by omega, by go_num, ?_, fun q hq => ?_, ?_, ?_⟩
      · rw [Nat.pow_succ, ← Nat.div_div_eq_div_mul, HX.out]
        go_num
      · by_cases h5 : q < k
        · exact HALL.out q h5
        · obtain rfl : q = k := by omega
          rw [HX.out]; exact hgo
      · rw [hexk, HX.out, HDX.out, ← fill_set, ← e2]; exact hb2
      · exact HBE.out.setCell (p := ⟨g, j, none⟩) (by rw [← HGE.out]; exact Nat.le_refl _) _
    case measure => simp [intOf]
  · have hx16 : x < 16 := by omega
    have hj64 : j ≤ 64 := by omega
    have hj65 : (j : Int) ≤ 65 := by omega
    have hd2 : x < digs.size := by have : digs.size = 36 := rfl; omega
    have hb2 : Blk (wr.setCell ⟨g, j, none⟩ (.int .u8 (digs[x]).toNat)) g 137 (u8c (fill65 j (hexd x :: hexk u k))).toArray := by
      have e2 : (Value.int .u8 ((digs[x]).toNat : Int)) = .int .u8 ((hexd x).toNat : Int) := by rw [digs_at x hx16 hd2]
      rw [← fill_set, ← e2]; exact HBK.out.set j (.int .u8 (digs[x]).toNat)
    have hcv := conv_any _ g _ _ hb2 j (65 - j) (65 - j) (by simp [fill65, hexk_len]; omega)
    have hres : ((fill65 j (hexd x :: hexk u k)).drop j).take (65 - j) = hexk u (hexn u) := by
      rw [hexn_eq k u HALL.out (by rw [HX.out]; exact hx16), hexk, HX.out, Nat.mod_eq_of_lt hx16, fill65, List.drop_left' (by simp), List.take_of_length_le (by simp [hexk_len]; omega)]
    rw [hres] at hcv
    have HBF : Hid (Below w.heap.size w (wr.setCell ⟨g, j, none⟩ (.int .u8 (digs[x]).toNat))) := Lib.hid (HBE.out.setCell (p := ⟨g, j, none⟩) (by rw [← HGE.out]; exact Nat.le_refl _) _)
    obtain ⟨w5, hw5⟩ : ∃ w5, (wr.setCell ⟨g, j, none⟩ (.int .u8 (digs[x]).toNat)) = w5 := ⟨_, rfl⟩
    rw [hw5] at hcv HBF
    unfold digs at hw5
    have HCV := Lib.hid hcv
    clear hb2 hres hik hcv
    go_upto_region 30 with (fail)
    refine (?_ : ∀ W', W' = w5 → Code.wp _ _ _ _ W') _ hw5
    clear hw5
    rintro _ rfl
    have hcv := HCV.out
    go_wp2
    go_ret2
    exact ⟨rfl, HBF.out⟩

end Go.Proofs.YtbefcipeojahfaaGreatDoor
