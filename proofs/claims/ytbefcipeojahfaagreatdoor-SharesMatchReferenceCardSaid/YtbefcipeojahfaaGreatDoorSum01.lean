/- digest.Sum. -/
import Derived.Test.YtbefcipeojahfaaGreatDoorHex01
import Derived.Test.YtbefcipeojahfaaGreatDoorShelf
namespace Go.Proofs.YtbefcipeojahfaaGreatDoor
open Go.RowKit

theorem fmt16i (u : Nat) (hu : u < 18446744073709551616) (w : World) (h : Tab64 w) :
    Calls Tryz.prog 103 #[.int .u64 u, .int .i64 16] w fun e w' => e = .returned (.string ⟨(hexk u (hexn u)).toArray⟩) ∧ Below w.heap.size w w' := by
  have H := Lib.hid (fmtbits u hu w h)
  clear h
  obtain ⟨r, hr⟩ : ∃ r, (⟨(hexk u (hexn u)).toArray⟩ : ByteArray) = r := ⟨_, rfl⟩
  rw [hr] at H ⊢
  clear hr
  go_enter Tryz.func103, Tryz.ntmps103
  go_wp2_with fail
  refine H.out.mono ?_
  rintro e w1 ⟨rfl, hb⟩
  go_wp2
  go_ret
  exact ⟨rfl, hb⟩
theorem fmt16 (u : Nat) (hu : u < 18446744073709551616) (w : World) (h : Tab64 w) :
    Calls Tryz.prog 92 #[.int .u64 u, .int .i64 16] w fun e w' => e = .returned (.string ⟨(hexk u (hexn u)).toArray⟩) ∧ Below w.heap.size w w' := by
  have H := Lib.hid (fmt16i u hu w h)
  clear h
  obtain ⟨r, hr⟩ : ∃ r, (⟨(hexk u (hexn u)).toArray⟩ : ByteArray) = r := ⟨_, rfl⟩
  rw [hr] at H ⊢
  clear hr
  go_enter Tryz.func92, Tryz.ntmps92
  go_wp2_with fail
  refine H.out.mono ?_
  rintro e w1 ⟨rfl, hb⟩
  go_wp2
  go_ret
  exact ⟨rfl, hb⟩

theorem hexn_le (u : Nat) (hu : u < 18446744073709551616) : 1 ≤ hexn u ∧ hexn u ≤ 16 := by
  have key : ∀ n u, u < 16 ^ (n + 1) → 1 ≤ hexn u ∧ hexn u ≤ n + 1 := by
    intro n
    induction n with
    | zero =>
      intro u h
      rw [hexn, dif_pos (by simpa using h)]
      omega
    | succ n ih =>
      intro u h
      by_cases h16 : u < 16
      · rw [hexn, dif_pos h16]; omega
      · rw [hexn, dif_neg h16]
        have := ih (u / 16) (by rw [Nat.pow_succ] at h; omega)
        omega
  have := key 15 u (by have : (16 : Nat) ^ (15 + 1) = 18446744073709551616 := by decide
                       rw [this]; exact hu)
  exact this
theorem hexn_zero (k u : Nat) (h : hexn u ≤ k) : u / 16 ^ k = 0 := by
  induction k generalizing u with
  | zero =>
    rw [hexn] at h
    split at h <;> omega
  | succ k ih =>
    rw [Nat.pow_succ', ← Nat.div_div_eq_div_mul]
    by_cases h16 : u < 16
    · rw [Nat.div_eq_of_lt h16, Nat.zero_div]
    · rw [hexn, dif_neg h16] at h
      exact ih (u / 16) (by omega)
theorem hex_pad (u n c : Nat) (h : hexn u ≤ n) : List.replicate c 48 ++ hexk u n = hexk u (n + c) := by
  induction c with
  | zero => rfl
  | succ c ih =>
    rw [List.replicate_succ, List.cons_append, ih, show n + (c + 1) = (n + c) + 1 from rfl, hexk, hexn_zero (n + c) u (by omega)]
    rfl

theorem repeat_one (c : UInt8) (n : Nat) : Lib.repeatL [c] n = List.replicate n c := by
  induction n with
  | zero => simp [Lib.repeatL]
  | succ n ih => simp_all [Lib.repeatL, List.replicate_succ]

/-- The state of the digest, and the digest. -/
def dgs (t : ByteArray) : UInt64 := absorb (1442695040888963407 ^^^ UInt64.ofNat t.size) t (t.size / 8 + 1)
def dg (t : ByteArray) : ByteArray := ⟨(hexk (dgs t).toNat 16).toArray⟩
theorem dg_size (t : ByteArray) : (dg t).size = 16 := hexk_len _ _

set_option maxHeartbeats 8000000 in
theorem sum_any (t : ByteArray) (ht : t.size ≤ 1000000000) (w : World) (h : Tab64 w) :
    Calls Tryz.prog 82 #[.string t] w fun e w' => e = .returned (.string (dg t)) ∧ Below w.heap.size w w' := by
  have HT := Lib.hid h
  obtain ⟨s0, hs0⟩ : ∃ s, 1442695040888963407 ^^^ UInt64.ofNat t.size = s := ⟨_, rfl⟩
  have e0 : bits .xor .u64 1442695040888963407 (t.size : Int) = (s0.toNat : Int) := by
    have h1 := bits_xor_u64 1442695040888963407 (UInt64.ofNat t.size)
    have h2 : ((UInt64.ofNat t.size).toNat : Int) = (t.size : Int) := by
      rw [UInt64.toNat_ofNat']; omega
    rw [h2, hs0] at h1
    exact h1
  obtain ⟨b, hb⟩ : ∃ b, w.heap.size = b := ⟨_, rfl⟩
  obtain ⟨wa, hwa⟩ : ∃ wa, w.alloc (.cells #[.int .u64 s0.toNat] 98) = wa := ⟨_, rfl⟩
  have hblk : Blk wa b 98 #[.int .u64 s0.toNat] := by rw [← hwa, ← hb]; exact Blk.new _ _ _ _ rfl
  have HBL := Lib.hid (blocks_any b s0 t wa (hblk.of_cell (i := 0) rfl) (hblk.frozen 0) ht)
  have HBW : Hid (Below w.heap.size w wa) := Lib.hid (by rw [← hwa]; exact below_alloc (Below.refl _ _) _)
  have HWA := Lib.hid hwa
  have HB := Lib.hid hb
  have HS0 := Lib.hid hs0
  clear hblk hs0 hwa hb h
  go_enter Tryz.func82, Tryz.ntmps82
  go_wp2_with fail
  rw [HWA.out, HB.out]
  refine HBL.out.mono ?_
  rintro e w1 ⟨rfl, hc, h1, _⟩
  have hb1 : Below w.heap.size w w1 := HBW.out.trans (hc.below (B := w.heap.size) (fun k hk => by rcases List.mem_singleton.1 hk with rfl; rw [← HB.out]; exact Nat.le_refl _) HBW.out.size)
  have HB1 := Lib.hid hb1
  obtain ⟨u, hu⟩ : ∃ u, (absorb s0 t (t.size / 8 + 1)).toNat = u := ⟨_, rfl⟩
  have hu64 : u < 18446744073709551616 := by rw [← hu]; exact (absorb s0 t (t.size / 8 + 1)).toNat_lt
  have HD : Hid (dg t = ⟨(hexk u 16).toArray⟩) := Lib.hid (by rw [dg, dgs, HS0.out, hu])
  rw [hu] at h1
  have hbl := lt_of_cell h1
  clear hu hc hb1
  have hfm := fmt16 u hu64 w1 (HT.out.below HB1.out)
  obtain ⟨hn1, hn2⟩ := hexn_le u hu64
  obtain ⟨n, hn⟩ : ∃ n, hexn u = n := ⟨_, rfl⟩
  obtain ⟨r, hr⟩ : ∃ r, (⟨(hexk u n).toArray⟩ : ByteArray) = r := ⟨_, rfl⟩
  have hrz : r.size = n := by rw [← hr]; exact hexk_len _ _
  rw [hn] at hn1 hn2 hfm
  rw [hr] at hfm
  obtain ⟨c, hcn⟩ : ∃ c, n + c = 16 := ⟨16 - n, by omega⟩
  have hrs : (16 : Int) - (r.size : Int) = (c : Int) := by omega
  have hrl : r.size ≤ 16 := by omega
  have HRE : Hid ((⟨(Lib.repeatL [48] c).toArray⟩ : ByteArray) ++ r = dg t) := Lib.hid (by
    rw [HD.out, ← hr, repeat_one, ← hcn]
    apply ByteArray.ext
    rw [ByteArray.data_append]
    apply Array.toList_inj.1
    rw [Array.toList_append]
    exact hex_pad u n c (by omega))
  have HFM := Lib.hid hfm
  have hcl : c ≤ 16 := by omega
  have hrep := Tryz.strings_Repeat ⟨#[48]⟩ c
  obtain ⟨p, hp⟩ : ∃ p, (⟨(Lib.repeatL [48] c).toArray⟩ : ByteArray) = p := ⟨_, rfl⟩
  have hpz : p.size ≤ 16 := by
    rw [← hp]
    show (Lib.repeatL [48] c).length ≤ 16
    rw [repeat_one, List.length_replicate]; exact hcl
  rw [hp] at HRE
  have HREP : Hid (∀ w, Calls Tryz.prog 93 #[.string ⟨#[48]⟩, .int .i64 c] w fun e w' => e = .returned (.string p) ∧ Below w.heap.size w w') := Lib.hid (fun w => by
    rw [← hp]
    exact hrep w (by omega) (by show 1 * c ≤ _; omega))
  have HRS := Lib.hid hrs
  clear hfm hn hr hrz hcn hn1 hn2 hp hrep hrs
  go_wp2_with fail
  refine HFM.out.mono ?_
  rintro e w2 ⟨rfl, hb2⟩
  have HB2 := Lib.hid (below_trans HB1.out hb2)
  clear hb2
  go_wp2_with fail
  rw [HRS.out]
  refine (HREP.out _).mono ?_
  rintro e w3 ⟨rfl, hb3⟩
  have HB3 := Lib.hid (below_trans HB2.out hb3)
  clear hb3
  go_wp2
  go_ret
  rw [HRE.out]
  exact ⟨rfl, HB3.out⟩

end Go.Proofs.YtbefcipeojahfaaGreatDoor
