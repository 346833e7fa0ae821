/- The digest's plain laws; observatorylaw01.head. -/
import Derived.Test.YtfgdcajhnbhhkaaDoorList01
namespace Go.Proofs.YtfgdcajhnbhhkaaDoor
open Go.RowKit

theorem beq_bytes (a b : ByteArray) : (a.toList == b.toList) = decide (a = b) := by
  rw [ByteArray.toList_eq, ByteArray.toList_eq]
  by_cases h : a = b
  · subst h; simp
  · simp only [h, decide_false, beq_eq_false_iff_ne, ne_eq]
    intro e
    exact h (ByteArray.ext (Array.toList_inj.1 e))
theorem beq_true (a : ByteArray) : (a.toList == a.toList) = true := by simp
theorem bne_of (a b : ByteArray) (h : a ≠ b) : (a.toList == b.toList) = false ∧ (a.toList != b.toList) = true := by
  have e : (a.toList == b.toList) = false := by rw [beq_bytes, decide_eq_false h]
  exact ⟨e, by rw [bne, e]; rfl⟩

theorem hexd_inj (a b : Nat) (ha : a < 16) (hb : b < 16) (h : hexd a = hexd b) : a = b := by
  have h1 := congrArg UInt8.toNat h
  unfold hexd at h1
  split at h1 <;> split at h1 <;> simp only [UInt8.toNat_ofNat'] at h1 <;> omega
theorem hexk_inj (k u v : Nat) (h : hexk u k = hexk v k) : u % 16 ^ k = v % 16 ^ k := by
  induction k with
  | zero => simp [Nat.mod_one]
  | succ k ih =>
    rw [hexk, hexk] at h
    injection h with h1 h2
    have h3 := hexd_inj _ _ (Nat.mod_lt _ (by omega)) (Nat.mod_lt _ (by omega)) h1
    rw [Nat.pow_succ, Nat.mod_mul, Nat.mod_mul, ih h2, h3]
theorem dg_eq (a b : ByteArray) : dg a = dg b ↔ dgs a = dgs b := by
  constructor
  · intro h
    have h1 : (hexk (dgs a).toNat 16).toArray = (hexk (dgs b).toNat 16).toArray := congrArg ByteArray.data h
    have h2 : hexk (dgs a).toNat 16 = hexk (dgs b).toNat 16 := by simpa using h1
    have h3 := hexk_inj 16 _ _ h2
    have h4 : (16 : Nat) ^ 16 = 18446744073709551616 := by decide
    have h5 := (dgs a).toNat_lt
    have h6 := (dgs b).toNat_lt
    rw [h4, Nat.mod_eq_of_lt h5, Nat.mod_eq_of_lt h6] at h3
    exact UInt64.toNat_inj.1 h3
  · intro h
    rw [dg, dg, h]

def sx : ByteArray := ⟨#[120]⟩
def s0_ : ByteArray := ⟨#[0]⟩
def s1_ : ByteArray := ⟨#[1]⟩
def se : ByteArray := ⟨#[]⟩
def hexF : ByteArray := ⟨#[48, 49, 50, 51, 52, 53, 54, 55, 56, 57, 97, 98, 99, 100, 101, 70]⟩
def lab : List ByteArray := [⟨#[97]⟩, ⟨#[98, 99]⟩]
theorem head_is1 : isD hexs = true := by decide
theorem head_is2 : isD hexF = false := by decide
theorem head_is3 : isD se = false := by decide
theorem head_jn : jn lab = [49, 58, 97, 50, 58, 98, 99] := by
  have h1 : Go.Lib.decDigits 1 = [49] := by rw [Go.Lib.decDigits]; rfl
  have h2 : Go.Lib.decDigits 2 = [50] := by rw [Go.Lib.decDigits]; rfl
  show (Go.Lib.decDigits 1 ++ [58] ++ [97]) ++ ((Go.Lib.decDigits 2 ++ [58] ++ [98, 99]) ++ []) = _
  rw [h1, h2]; rfl
theorem head_0 : dg se ≠ dg s0_ := fun h => absurd ((dg_eq _ _).1 h) (by decide +kernel)
theorem head_1 : dg s1_ ≠ dg se := fun h => absurd ((dg_eq _ _).1 h) (by decide +kernel)

set_option maxRecDepth 100000 in
set_option maxHeartbeats 8000000 in
theorem head_any (w : World) (h : Tabs w) : Calls Tryd.prog 10 #[] w fun e w' => e = .returned (.bool true) ∧ Below w.heap.size w w' := by
  have HT : Hid (∀ w', Below w.heap.size w w' → Tabs w') := Lib.hid (fun w' hb => h.below hb)
  have HS : Hid (∀ (t : ByteArray) (w' : World), t.size ≤ 1000000000 → Below w.heap.size w w' → Calls Tryd.prog 12 #[.string t] w' fun e w'' => e = .returned (.string (dg t)) ∧ Below w.heap.size w w'') := Lib.hid (fun t w' ht hb => (sum_any t ht w' (h.below hb).t64).mono fun _ _ ⟨he, h2⟩ => ⟨he, below_trans hb h2⟩)
  have HIS : Hid (∀ (t : ByteArray) (v : Bool) (w' : World), isD t = v → t.size ≤ 1000000000 → Below w.heap.size w w' → Calls Tryd.prog 18 #[.string t] w' fun e w'' => e = .returned (.bool v) ∧ Below w.heap.size w w'') := Lib.hid (fun t v w' hv ht hb => (is_any t w' ht).mono fun _ _ ⟨he, h2⟩ => ⟨by rw [he, hv], below_trans hb h2⟩)
  have HCH : Hid (∀ (t : ByteArray) (n : Int) (w' : World), t.size ≤ 1000000000 → Below w.heap.size w w' → Calls Tryd.prog 16 #[.string t, .int .i64 n] w' fun e w'' => e = .returned (.string (chn t (times n))) ∧ Below w.heap.size w w'') := Lib.hid (fun t n w' ht hb => (chain_any t n w' ht (h.below hb).t64).mono fun _ _ ⟨he, h2⟩ => ⟨he, below_trans hb h2⟩)
  clear h
  obtain ⟨d1, hd1⟩ : ∃ d, dg ⟨#[49, 58, 97, 50, 58, 98, 99]⟩ = d := ⟨_, rfl⟩
  obtain ⟨d2, hd2⟩ : ∃ d, dg (dg sx) = d := ⟨_, rfl⟩
  obtain ⟨d3, hd3⟩ : ∃ d, dg se = d := ⟨_, rfl⟩
  obtain ⟨d4, hd4⟩ : ∃ d, dg s0_ = d := ⟨_, rfl⟩
  obtain ⟨d5, hd5⟩ : ∃ d, dg s1_ = d := ⟨_, rfl⟩
  obtain ⟨dx, hdx⟩ : ∃ d, dg sx = d := ⟨_, rfl⟩
  have hn0 := head_0
  have hn1 := head_1
  have hdxz : dx.size = 16 := by rw [← hdx, dg_size]
  rw [hd3, hd4] at hn0
  rw [hd5, hd3] at hn1
  rw [hdx] at hd2
  have t1 := beq_true d1
  have t2 := beq_true d2
  obtain ⟨t3, t4⟩ := bne_of d3 d4 hn0
  obtain ⟨t5, t6⟩ := bne_of d5 d3 hn1
  have HD1 := Lib.hid hd1
  have HD2 := Lib.hid hd2
  have HD3 := Lib.hid hd3
  have HD4 := Lib.hid hd4
  have HD5 := Lib.hid hd5
  have HDX := Lib.hid hdx
  have HDXZ := Lib.hid hdxz
  clear hd1 hd2 hd3 hd4 hd5 hdx hdxz hn0 hn1
  go_enter Tryd.func10, Tryd.ntmps10
  go_wp2_with fail
  refine (HIS.out hexs true w head_is1 (by decide) (Below.refl _ _)).mono ?_
  rintro e w1 ⟨rfl, hb⟩
  have HB1 := Lib.hid hb
  clear hb
  go_wp2_with fail
  refine (HIS.out hexF false w1 head_is2 (by decide) HB1.out).mono ?_
  rintro e w2 ⟨rfl, hb⟩
  have HB2 := Lib.hid hb
  clear hb
  go_wp2_with fail
  refine (HIS.out se false w2 head_is3 (by decide) HB2.out).mono ?_
  rintro e w3 ⟨rfl, hb⟩
  have HB3 := Lib.hid hb
  clear hb
  obtain ⟨wa, hwa⟩ : ∃ wa, w3.alloc (.cells #[.string ⟨#[97]⟩, .string ⟨#[98, 99]⟩] 9) = wa := ⟨_, rfl⟩
  have HBA : Hid (Below w.heap.size w wa) := Lib.hid (by rw [← hwa]; exact below_alloc HB3.out _)
  have HSA : Hid (Strs wa (some ⟨w3.heap.size, 0, none⟩) lab) := Lib.hid (by rw [← hwa]; exact Strs_new _ _ _ _ _ rfl rfl)
  have HWA := Lib.hid hwa
  clear hwa
  go_wp2_with fail
  rw [HWA.out]
  have hli := list_any (some ⟨w3.heap.size, 0, none⟩) 2 lab wa HSA.out (HT.out _ HBA.out) (by rw [head_jn]; decide) (by decide)
  rw [head_jn, HD1.out] at hli
  refine hli.mono ?_
  rintro e w4 ⟨rfl, hb⟩
  have HB4 := Lib.hid (below_trans HBA.out hb)
  clear hb hli
  go_wp2_with fail
  have hs1 := HS.out ⟨#[49, 58, 97, 50, 58, 98, 99]⟩ w4 (by decide) HB4.out
  rw [HD1.out] at hs1
  refine hs1.mono ?_
  rintro e w5 ⟨rfl, hb⟩
  have HB5 := Lib.hid hb
  clear hb hs1
  go_wp2_with fail
  refine (HCH.out sx 0 w5 (by decide) HB5.out).mono ?_
  rintro e w6 ⟨rfl, hb⟩
  have HB6 := Lib.hid hb
  clear hb
  have e6 : chn sx (times 0) = ⟨#[120]⟩ := rfl
  have HE6 := Lib.hid e6
  rw [HE6.out]
  clear e6
  go_wp2_with fail
  have hc2 := HCH.out sx 2 w6 (by decide) HB6.out
  have e7 : chn sx (times 2) = d2 := by rw [← HD2.out, ← HDX.out]; rfl
  rw [e7] at hc2
  refine hc2.mono ?_
  rintro e w7 ⟨rfl, hb⟩
  have HB7 := Lib.hid hb
  clear hb hc2 e7
  go_wp2_with fail
  have hs2 := HS.out sx w7 (by decide) HB7.out
  rw [HDX.out] at hs2
  refine hs2.mono ?_
  rintro e w8 ⟨rfl, hb⟩
  have HB8 := Lib.hid hb
  clear hb hs2
  go_wp2_with fail
  have hs3 := HS.out dx w8 (by have := HDXZ.out; omega) HB8.out
  rw [HD2.out] at hs3
  refine hs3.mono ?_
  rintro e w9 ⟨rfl, hb⟩
  have HB9 := Lib.hid hb
  clear hb hs3
  go_wp2_with fail
  have hs4 := HS.out se w9 (by decide) HB9.out
  rw [HD3.out] at hs4
  refine hs4.mono ?_
  rintro e w10 ⟨rfl, hb⟩
  have HB10 := Lib.hid hb
  clear hb hs4
  go_wp2_with fail
  have hs5 := HS.out s0_ w10 (by decide) HB10.out
  rw [HD4.out] at hs5
  refine hs5.mono ?_
  rintro e w11 ⟨rfl, hb⟩
  have HB11 := Lib.hid hb
  clear hb hs5
  go_wp2_with fail
  have hs6 := HS.out s1_ w11 (by decide) HB11.out
  rw [HD5.out] at hs6
  refine hs6.mono ?_
  rintro e w12 ⟨rfl, hb⟩
  have HB12 := Lib.hid hb
  clear hb hs6
  go_wp2_with fail
  have hs7 := HS.out se w12 (by decide) HB12.out
  rw [HD3.out] at hs7
  refine hs7.mono ?_
  rintro e w13 ⟨rfl, hb⟩
  have HB13 := Lib.hid hb
  clear hb hs7
  go_wp2
  go_ret
  exact ⟨rfl, HB13.out⟩

end Go.Proofs.YtfgdcajhnbhhkaaDoor
