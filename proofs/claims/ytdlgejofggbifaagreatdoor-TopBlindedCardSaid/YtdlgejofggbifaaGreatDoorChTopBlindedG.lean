/- TopBlinded: few keepers. TopBlinded: enough keepers. TopBlinded: the walk, joined. Arguments of chapter 7's laws: a share, a list of shares, a list of numbers. A slice of strings as an argument. -/
import Derived.Test.YtdlgejofggbifaaGreatDoorChTopBlindedF
namespace Go.Proofs.YtdlgejofggbifaaGreatDoor

section
open Go.RowKit

set_option maxRecDepth 100000 in
set_option maxHeartbeats 64000000 in
theorem topb_few (A : Option Addr) (c : Nat) (raw : List Int) (B : Option Addr) (d : Nat) (second : List Int) (secret other : Int) (E : Option Addr) (f : Nat) (list : List Int) (a b bts first : Nat) (w : World) (hT : Tabs w) (hA : Ints w A raw) (hB : Ints w B second) (hE : Ints w E list) (h1 : raw.length ≤ 9223372036854775807) (h2 : second.length ≤ 9223372036854775807) (h3 : list.length ≤ 9223372036854775807) (ha : a < 256) (hb : b < 256) (hbts : bts < 256) (hfirst : first < 256) (hz_a : ¬ 12 < raw.length) (hz_b : ¬ 12 < second.length) (hkc : kcn bts (1 + a % 4 + b % 3) < 1 + a % 4) :
    Calls Tryz.prog 3 #[.slice A raw.length c, .slice B second.length d, .int .i64 secret, .int .i64 other, .slice E list.length f, .int .u8 a, .int .u8 b, .int .u8 bts, .int .u8 first] w fun e w' => e = .returned (.bool true) ∧ Below w.heap.size w w' := by
  have HH := Lib.hid (whidden_any w hT)
  have HT : Hid (∀ W, Below w.heap.size w W → Tabs W) := Lib.hid (fun W hW => hT.below hW)
  have HA := Lib.hid hA
  have HB := Lib.hid hB
  obtain ⟨i0, hi0, hz0, hz1, hz2⟩ := info_parts info_int
  have HI := Lib.hid (And.intro hi0 (And.intro hz0 (And.intro hz1 hz2)))
  have HMO1 := Lib.hid (md_ok raw secret (by omega))
  have HMO2 := Lib.hid (md_ok second secret (by omega))
  have HML1 := Lib.hid (md_len raw)
  have HML2 := Lib.hid (md_len second)
  have HMG1 : Hid (∀ (k : Nat) (x : Int), raw[k]? = some x → (md raw)[k]? = some (x.tmod 1000000001)) := Lib.hid (fun k x h => md_get h)
  have HMG2 : Hid (∀ (k : Nat) (x : Int), second[k]? = some x → (md second)[k]? = some (x.tmod 1000000001)) := Lib.hid (fun k x h => md_get h)
  have HMR1 : Hid (∀ (k : Nat) (y : Int), (md raw)[k]? = some y → -1000000000 ≤ y ∧ y ≤ 1000000000) := Lib.hid (fun k y h => by
    obtain ⟨x, _, rfl⟩ := List.mem_map.1 (List.mem_of_getElem? h)
    exact tm_range x)
  have HMR2 : Hid (∀ (k : Nat) (y : Int), (md second)[k]? = some y → -1000000000 ≤ y ∧ y ≤ 1000000000) := Lib.hid (fun k y h => by
    obtain ⟨x, _, rfl⟩ := List.mem_map.1 (List.mem_of_getElem? h)
    exact tm_range x)
  obtain ⟨nn, hn⟩ : ∃ n, n = 1 + a % 4 := ⟨_, rfl⟩
  obtain ⟨m, hm⟩ : ∃ m, m = 1 + a % 4 + b % 3 := ⟨_, rfl⟩
  have hn1 : 1 ≤ nn := by omega
  have hnm : nn ≤ m := by omega
  have hm6 : m ≤ 6 := by omega
  have hpl : ((secret % 2147483647) :: madeL list (a % 4)).length ≤ nn := by rw [List.length_cons, madeL_length]; omega
  have hp0 : evp ((secret % 2147483647) :: madeL list (a % 4)) 0 = secret % 2147483647 := evp_zero _ _ (elemB_mod secret)
  have HSH : Hid (∀ W, Below w.heap.size w W → Calls Tryz.prog 11 #[.int .i64 secret, .slice E list.length f, .int .u8 a, .int .u8 b] W fun e w' => ∃ A' c', e = .returned (.tuple #[.slice A' m c', .int .i64 nn, .bool true]) ∧ Prs w' A' (shs ((secret % 2147483647) :: madeL list (a % 4)) m) ∧ Below W.heap.size W w') := Lib.hid (fun W hW => by
    have := wshares_any secret E f list a b W (hE.below hW) h3 ha hb
    rw [← hm, ← hn] at this
    refine this.mono ?_
    rintro e w' ⟨v, rfl, ho, hb⟩
    obtain ⟨A1, c1, rfl, -, -, hr1⟩ := Rd.of_own ho
    exact ⟨A1, c1, rfl, by unfold Prs; rw [shs_length]; exact hr1, hb⟩)
  rw [← hm, ← hn] at hkc
  generalize ((secret % 2147483647) :: madeL list (a % 4)) = P at *
  have HOP : Hid (∀ (Z : Option Addr) (cz : Nat) W, Prs W Z (shs P m) → Below w.heap.size w W → Calls Tryz.prog 12 #[.slice Z m cz, .int .i64 nn, .int .u8 bts] W fun e w' => e = .returned (.tuple #[.int .i64 (0), .int .i64 25]) ∧ Below W.heap.size W w') := Lib.hid (fun Z cz W hZ hW => by
    have := wopened_any Z cz P nn m bts W hZ (hT.below hW) hn1 hnm hm6 hpl hbts
    rw [if_pos hkc, if_pos hkc] at this
    exact this)
  have HOP2 : Hid (∀ (Z : Option Addr) (cz : Nat) (C : List Int) W, Prs W Z (shs C m) → C.length ≤ nn → evp C 0 = other % 2147483647 → Below w.heap.size w W → Calls Tryz.prog 12 #[.slice Z m cz, .int .i64 nn, .int .u8 255] W fun e w' => e = .returned (.tuple #[.int .i64 (other % 2147483647), .int .i64 0]) ∧ Below W.heap.size W w') := Lib.hid (fun Z cz C W hZ hC h0 hW => by
    have := wopened_any Z cz C nn m 255 W hZ (hT.below hW) hn1 hnm hm6 hC (by omega)
    rw [kcn_all m hm6, if_neg (by omega), if_neg (by omega), h0] at this
    exact this)
  have HOT : Hid (∀ (Z : Option Addr) (cz : Nat) W, Prs W Z (shs P m) → _) := Lib.hid (fun Z cz W hZ => wother_any Z cz P nn m first (other % 2147483647) W hZ hn1 hnm hm6 (tb_elem other) hfirst)
  have HKS : Hid (∀ k, _) := Lib.hid (fun k => kcn_step bts k hbts)
  have HEO := Lib.hid (tb_elem other)
  generalize md raw = ma at *
  generalize md second = mb at *
  clear hi0 hz0 hz1 hz2 hT hA hB hE hn hm hp0 hpl h1 h2 h3
  have hd1_a : decide (12 < raw.length) = false := decide_eq_false hz_a
  have hi1_a : ¬ (12 : Int) < (raw.length : Int) := by omega
  have hd2_a : decide ((12 : Int) < (raw.length : Int)) = false := decide_eq_false hi1_a
  have hd1_b : decide (12 < second.length) = false := decide_eq_false hz_b
  have hi1_b : ¬ (12 : Int) < (second.length : Int) := by omega
  have hd2_b : decide ((12 : Int) < (second.length : Int)) = false := decide_eq_false hi1_b
  go_enter Tryz.func3, Tryz.ntmps3
  go_wp2_with fail
  refine (HH.out).mono ?_
  rintro e w1 ⟨rfl, hb⟩
  have HB1 := Lib.hid hb
  clear hb
  have HO0 : Hid (w1.ownsRow w1.heap.size 3 1 (.slice none 0 0) 0 []) := ⟨rfl, .inl ⟨rfl, rfl⟩⟩
  go_wp2_with fail
  go_loopw [20, 22] (fun us uc wr => ∃ k : Nat, k ≤ raw.length ∧ uc = .int .i64 k ∧ Below w1.heap.size w1 wr ∧ wr.ownsRow w1.heap.size 3 1 us k ((ma.take k).map (Value.int .i64))) (fun _ uc _ => raw.length - (intOf uc).toNat)
  case atStart => exact ⟨0, Nat.zero_le _, rfl, Below.refl _ _, HO0.out⟩
  case round =>
  obtain ⟨k, hk, rfl, hb, ho⟩ := hrel
  have HBk := Lib.hid hb
  have HOk := Lib.hid ho
  clear hb ho
  by_cases hlt : k < raw.length
  case pos =>
    obtain ⟨x, hx⟩ := get_some raw k hlt
    obtain ⟨bb, off, rfl, hcell⟩ := (HA.out.below (below_trans HB1.out HBk.out)).at_ hx
    have hcl := lt_of_cell hcell
    have HX := Lib.hid (HMG1.out k x hx)
    clear hx
    generalize hy : x.tmod 1000000001 = y at *
    go_wp2_with (at_builtin; refine wpList_app _ rfl (.tmp 63) (.tmp 69) 22 22 rfl w1.heap.size 3 3 i0 _ 1 8 Tryz.underlying22 Tryz.underlying22 HI.out.1 HI.out.2.1 HI.out.2.2.1 HI.out.2.2.2 rfl (by omega) _ k _ rfl (HOk.out.alloc _) _ 1 1 [.int .i64 y] rfl (Rd_new wr #[.int .i64 y] _ 1 1 _ rfl rfl) (by simp [Value.oneCell']) (by simp only [maxLen]; omega) (by omega) (by have := HBk.out.size; simp; omega) ?_)
    intro v1 w4 hown4 hg4
    have HB4 : Hid (Below w1.heap.size w1 w4) := Lib.hid ((below_alloc HBk.out _).grown hg4 (by have := HBk.out.size; simp; omega) (fun j hj => (HOk.out.lt j hj).1))
    have HOWN4 := Lib.hid hown4
    clear hown4 hg4 hy
    go_wp2
    go_roundw
    case rel => exact ⟨k + 1, by omega, by go_num, HB4.out, by rw [take_snoc _ _ _ HX.out, List.map_append, List.map_take]; exact HOWN4.out⟩
    case measure => simp [intOf]; omega
  case neg =>
  obtain rfl : k = raw.length := by omega
  obtain ⟨A20, c20, rfl, -, -, hr20⟩ := Rd.of_own HOk.out
  have hI8 : Ints wr A20 ma := by
    unfold Ints
    rw [HML1.out]
    rw [List.take_of_length_le (by rw [HML1.out]; exact Nat.le_refl _)] at hr20
    exact hr20
  have HI8 : Hid (∀ W, Below wr.heap.size wr W → Ints W A20 ma) := Lib.hid (fun W hW => hI8.below hW)
  have HB2 := Lib.hid (below_trans HB1.out HBk.out)
  clear hI8 hr20 HOk HBk HO0
  obtain ⟨w2, rfl⟩ : ∃ w2 : World, w2 = wr := ⟨_, rfl⟩
  have HO0 : Hid (w2.ownsRow w2.heap.size 3 1 (.slice none 0 0) 0 []) := ⟨rfl, .inl ⟨rfl, rfl⟩⟩
  go_wp2_with fail
  go_loopw [21, 23] (fun us uc wr => ∃ k : Nat, k ≤ second.length ∧ uc = .int .i64 k ∧ Below w2.heap.size w2 wr ∧ wr.ownsRow w2.heap.size 3 1 us k ((mb.take k).map (Value.int .i64))) (fun _ uc _ => second.length - (intOf uc).toNat)
  case atStart => exact ⟨0, Nat.zero_le _, rfl, Below.refl _ _, HO0.out⟩
  case round =>
  obtain ⟨k, hk, rfl, hb, ho⟩ := hrel
  have HBk := Lib.hid hb
  have HOk := Lib.hid ho
  clear hb ho
  by_cases hlt : k < second.length
  case pos =>
    obtain ⟨x, hx⟩ := get_some second k hlt
    obtain ⟨bb, off, rfl, hcell⟩ := (HB.out.below (below_trans HB2.out HBk.out)).at_ hx
    have hcl := lt_of_cell hcell
    have HX := Lib.hid (HMG2.out k x hx)
    clear hx
    generalize hy : x.tmod 1000000001 = y at *
    go_wp2_with (at_builtin; refine wpList_app _ rfl (.tmp 77) (.tmp 83) 22 22 rfl w2.heap.size 3 3 i0 _ 1 8 Tryz.underlying22 Tryz.underlying22 HI.out.1 HI.out.2.1 HI.out.2.2.1 HI.out.2.2.2 rfl (by omega) _ k _ rfl (HOk.out.alloc _) _ 1 1 [.int .i64 y] rfl (Rd_new wr #[.int .i64 y] _ 1 1 _ rfl rfl) (by simp [Value.oneCell']) (by simp only [maxLen]; omega) (by omega) (by have := HBk.out.size; simp; omega) ?_)
    intro v1 w4 hown4 hg4
    have HB4 : Hid (Below w2.heap.size w2 w4) := Lib.hid ((below_alloc HBk.out _).grown hg4 (by have := HBk.out.size; simp; omega) (fun j hj => (HOk.out.lt j hj).1))
    have HOWN4 := Lib.hid hown4
    clear hown4 hg4 hy
    go_wp2
    go_roundw
    case rel => exact ⟨k + 1, by omega, by go_num, HB4.out, by rw [take_snoc _ _ _ HX.out, List.map_append, List.map_take]; exact HOWN4.out⟩
    case measure => simp [intOf]; omega
  case neg =>
  obtain rfl : k = second.length := by omega
  obtain ⟨A21, c21, rfl, -, -, hr21⟩ := Rd.of_own HOk.out
  have hI9 : Ints wr A21 mb := by
    unfold Ints
    rw [HML2.out]
    rw [List.take_of_length_le (by rw [HML2.out]; exact Nat.le_refl _)] at hr21
    exact hr21
  have HAB : Hid (∀ W, Below wr.heap.size wr W → Ints W A20 ma ∧ Ints W A21 mb) := Lib.hid (fun W hW => ⟨HI8.out W (below_trans HBk.out hW), hI9.below hW⟩)
  have HB3 := Lib.hid (below_trans HB2.out HBk.out)
  clear hI9 hr21 HOk HBk HO0 HI8
  obtain ⟨w3, rfl⟩ : ∃ w3 : World, w3 = wr := ⟨_, rfl⟩
  have hle1 := HML1.out
  have hle2 := HML2.out
  obtain ⟨S, hS⟩ : ∃ S, secret % 2147483647 = S := ⟨_, rfl⟩
  obtain ⟨O, hO⟩ : ∃ O, other % 2147483647 = O := ⟨_, rfl⟩
  have hmo1 := HMO1.out
  have hmo2 := HMO2.out
  have heo := HEO.out
  rw [hS] at hmo1 hmo2
  rw [hO] at heo
  have hbl1 := blL_len hmo1
  have hbl2 := blL_len hmo2
  have hbk := back_ok hmo1
  have hxo := mvOk_other hbk.1 heo
  have hul := unL_len hxo
  have hmo := mvOk_other hmo1 heo
  have hml := blL_len hmo
  rw [hbl1, hle1] at hul
  have HX3 : Hid (Below w3.heap.size w3 w3) := Lib.hid (Below.refl _ _)
  have HBA : Hid (∀ W, Below w3.heap.size w3 W → Calls Tryz.prog 9 #[.slice A20 raw.length c20, .int .i64 S] W fun e w' => ∃ Z cz, e = .returned (.tuple #[.slice Z raw.length cz, .int .i64 0]) ∧ Ints w' Z (blL ma S) ∧ Below W.heap.size W w') := Lib.hid (fun W hW => by
    have := blind_any A20 c20 ma S W (HAB.out W hW).1 (by omega) (HT.out W (below_trans HB3.out hW))
    rw [hmo1, if_pos rfl, hle1] at this
    refine this.mono ?_
    rintro e w' ⟨v, rfl, ho, hb⟩
    obtain ⟨Z, cz, rfl, -, -, hr⟩ := Rd.of_own ho
    exact ⟨Z, cz, by rw [hbl1, hle1], hr, hb⟩)
  have HBB : Hid (∀ W, Below w3.heap.size w3 W → Calls Tryz.prog 9 #[.slice A21 second.length c21, .int .i64 S] W fun e w' => ∃ Z cz, e = .returned (.tuple #[.slice Z second.length cz, .int .i64 0]) ∧ Ints w' Z (blL mb S) ∧ Below W.heap.size W w') := Lib.hid (fun W hW => by
    have := blind_any A21 c21 mb S W (HAB.out W hW).2 (by omega) (HT.out W (below_trans HB3.out hW))
    rw [hmo2, if_pos rfl, hle2] at this
    refine this.mono ?_
    rintro e w' ⟨v, rfl, ho, hb⟩
    obtain ⟨Z, cz, rfl, -, -, hr⟩ := Rd.of_own ho
    exact ⟨Z, cz, by rw [hbl2, hle2], hr, hb⟩)
  have HBO : Hid (∀ W, Below w3.heap.size w3 W → Calls Tryz.prog 9 #[.slice A20 raw.length c20, .int .i64 O] W fun e w' => ∃ Z cz, e = .returned (.tuple #[.slice Z raw.length cz, .int .i64 0]) ∧ Ints w' Z (blL ma O) ∧ Below W.heap.size W w') := Lib.hid (fun W hW => by
    have := blind_any A20 c20 ma O W (HAB.out W hW).1 (by omega) (HT.out W (below_trans HB3.out hW))
    rw [hmo, if_pos rfl, hle1] at this
    refine this.mono ?_
    rintro e w' ⟨v, rfl, ho, hb⟩
    obtain ⟨Z, cz, rfl, -, -, hr⟩ := Rd.of_own ho
    exact ⟨Z, cz, by rw [hml, hle1], hr, hb⟩)
  have HUN : Hid (∀ (Y : Option Addr) (cy : Nat) W, Below w3.heap.size w3 W → Ints W Y (blL ma S) → Calls Tryz.prog 13 #[.slice Y raw.length cy, .int .i64 S] W fun e w' => ∃ Z cz, e = .returned (.tuple #[.slice Z raw.length cz, .int .i64 0]) ∧ Ints w' Z ma ∧ Below W.heap.size W w') := Lib.hid (fun Y cy W hW hY => by
    have := unblind_any Y cy (blL ma S) S W hY (by rw [hbl1]; omega) (HT.out W (below_trans HB3.out hW))
    rw [hbk.1, hbk.2, if_pos rfl, hbl1, hle1] at this
    refine this.mono ?_
    rintro e w' ⟨v, rfl, ho, hb⟩
    obtain ⟨Z, cz, rfl, -, -, hr⟩ := Rd.of_own ho
    exact ⟨Z, cz, rfl, by unfold Ints; rw [hle1]; exact hr, hb⟩)
  have HUO : Hid (∀ (Y : Option Addr) (cy : Nat) W, Below w3.heap.size w3 W → Ints W Y (blL ma S) → Calls Tryz.prog 13 #[.slice Y raw.length cy, .int .i64 O] W fun e w' => ∃ Z cz, e = .returned (.tuple #[.slice Z raw.length cz, .int .i64 0]) ∧ Ints w' Z (unL (blL ma S) O) ∧ Below W.heap.size W w') := Lib.hid (fun Y cy W hW hY => by
    have := unblind_any Y cy (blL ma S) O W hY (by rw [hbl1]; omega) (HT.out W (below_trans HB3.out hW))
    rw [hxo, if_pos rfl, hbl1, hle1] at this
    refine this.mono ?_
    rintro e w' ⟨v, rfl, ho, hb⟩
    obtain ⟨Z, cz, rfl, -, -, hr⟩ := Rd.of_own ho
    exact ⟨Z, cz, by rw [hul], hr, hb⟩)
  have HG1 : Hid (∀ (i : Nat) (x : Int), ma[i]? = some x → (blL ma S)[i]? = some (x + (offN S.toNat i : Int))) := Lib.hid (fun i x h => blL_get hmo1 h)
  have HG2 : Hid (∀ (i : Nat) (x : Int), mb[i]? = some x → (blL mb S)[i]? = some (x + (offN S.toNat i : Int))) := Lib.hid (fun i x h => blL_get hmo2 h)
  have HG3 : Hid (∀ (i : Nat) (x : Int), ma[i]? = some x → (blL ma O)[i]? = some (x + (offN O.toNat i : Int))) := Lib.hid (fun i x h => blL_get hmo h)
  have HG4 : Hid (∀ (i : Nat) (x : Int), ma[i]? = some x → (unL (blL ma S) O)[i]? = some (x + (offN S.toNat i : Int) - (offN O.toNat i : Int))) := Lib.hid (fun i x h => unL_get hxo (blL_get hmo1 h))
  have HF1 : Hid (∀ i, offN S.toNat i < 1000003) := Lib.hid (fun i => offN_lt _ i)
  have HF2 : Hid (∀ i, offN O.toNat i < 1000003) := Lib.hid (fun i => offN_lt _ i)
  generalize unL (blL ma S) O = zs at *
  generalize blL ma S = xs at *
  generalize blL mb S = ys at *
  generalize blL ma O = ms at *
  generalize offN S.toNat = of1 at *
  generalize offN O.toNat = of2 at *
  rw [hO] at HOP2 HOT
  have HSE := Lib.hid hS
  have HOE := Lib.hid hO
  clear hmo1 hmo2 heo hbl1 hbl2 hbk hxo hul hmo hml hle1 hle2 hS hO
  go_wp2_with fail
  refine (welement_any _ _).mono ?_
  rintro e _ ⟨rfl, rfl⟩
  rw [HSE.out]
  go_wp2_with fail
  refine (HBA.out w3 HX3.out).mono ?_
  rintro e w4 ⟨Ax, cx, rfl, hr, hb⟩
  have HX4 := Lib.hid hb
  have HIX : Hid (∀ W, Below w4.heap.size w4 W → Ints W Ax xs) := Lib.hid (fun W hW => hr.below hW)
  clear hr hb
  go_wp2_with fail
  refine (welement_any _ _).mono ?_
  rintro e _ ⟨rfl, rfl⟩
  rw [HSE.out]
  go_wp2_with fail
  refine (HBB.out w4 HX4.out).mono ?_
  rintro e w5 ⟨Ay, cy, rfl, hr, hb⟩
  have HX5 := Lib.hid (below_trans HX4.out hb)
  have HXY : Hid (∀ W, Below w5.heap.size w5 W → Ints W Ax xs ∧ Ints W Ay ys) := Lib.hid (fun W hW => ⟨HIX.out W (below_trans hb hW), hr.below hW⟩)
  clear hr hb HIX
  go_wp2_with fail
  refine (HSH.out w5 (below_trans HB3.out HX5.out)).mono ?_
  rintro e w6 ⟨Al, cl, rfl, hr, hb⟩
  have HX6 := Lib.hid (below_trans HX5.out hb)
  have HQ6 : Hid (Below w5.heap.size w5 w6) := Lib.hid hb
  have HPR : Hid (∀ W, Below w6.heap.size w6 W → Prs W Al (shs P m)) := Lib.hid (fun W hW => hr.below hW)
  clear hr hb
  have hl1 : ((raw.length : Int) != (raw.length : Int)) = false := by simp
  have hl2 : ((second.length : Int) != (second.length : Int)) = false := by simp
  have hl3 : ((m : Int) == 0) = false := by simp; omega
  have hl4 : ((m : Int) != (m : Int)) = false := by simp
  go_wp2_with fail
  go_loopw [31] (fun u31 wr => ∃ i : Nat, i ≤ raw.length ∧ u31 = .int .i64 i ∧ Below w6.heap.size w6 wr) (fun u31 _ => raw.length - (intOf u31).toNat)
  case atStart => exact ⟨0, Nat.zero_le _, rfl, Below.refl _ _⟩
  case round =>
  obtain ⟨i, hi, rfl, hb⟩ := hrel
  have HW := Lib.hid hb
  clear hb
  by_cases hboth : i < raw.length ∧ i < second.length
  case pos =>
    obtain ⟨hlt, hlb⟩ := hboth
    obtain ⟨x, hx⟩ := get_some ma i (by have := HML1.out; omega)
    obtain ⟨y, hy⟩ := get_some mb i (by have := HML2.out; omega)
    have hxr := HMR1.out i x hx
    have hyr := HMR2.out i y hy
    have hd := HF1.out i
    obtain ⟨bx, ox, rfl, q1⟩ := (HXY.out _ (below_trans HQ6.out HW.out)).1.at_ (HG1.out i x hx)
    obtain ⟨by_, oy, rfl, q2⟩ := (HXY.out _ (below_trans HQ6.out HW.out)).2.at_ (HG2.out i y hy)
    obtain ⟨ba, oa, rfl, q3⟩ := (HAB.out _ (below_trans HX6.out HW.out)).1.at_ hx
    obtain ⟨bb, ob, rfl, q4⟩ := (HAB.out _ (below_trans HX6.out HW.out)).2.at_ hy
    have HC : Hid (∀ W, Below wr.heap.size wr W → W.cell? ⟨bx, ox + i, none⟩ = some (.int .i64 (x + (of1 i : Int))) ∧ W.cell? ⟨by_, oy + i, none⟩ = some (.int .i64 (y + (of1 i : Int)))) := Lib.hid (fun W hW => ⟨kept_cell hW q1, kept_cell hW q2⟩)
    have HD : Hid (∀ W, Below wr.heap.size wr W → W.cell? ⟨ba, oa + i, none⟩ = some (.int .i64 x) ∧ W.cell? ⟨bb, ob + i, none⟩ = some (.int .i64 y)) := Lib.hid (fun W hW => ⟨kept_cell hW q3, kept_cell hW q4⟩)
    obtain ⟨X, hX⟩ : ∃ X, x + (of1 i : Int) = X := ⟨_, rfl⟩
    obtain ⟨Y, hY⟩ : ∃ Y, y + (of1 i : Int) = Y := ⟨_, rfl⟩
    rw [hX, hY] at HC
    have wr2 : IntKind.i64.wrap (X - Y) = x - y := by rw [IntWalk.i64_in _ (by omega)]; omega
    have wr3 : IntKind.i64.wrap (x - y) = x - y := by rw [IntWalk.i64_in _ (by omega)]
    have hli : (i : Int) < (raw.length : Int) := by omega
    have hlj : (i : Int) < (second.length : Int) := by omega
    clear hx hy q1 q2 q3 q4 hX hY hxr hyr hd
    go_wp2_with fail
    refine wp_region_belowC (by kernel_rfl) (by kernel_rfl) (fun WQ HQS HQN => ?_)
    refine HQS.go (fun K hK => ?_)
    go_simp
    apply Exists.intro
    refine ⟨fun W hW => ?_, hK _ ?_⟩
    · (try go_simp)
      exact rfl
    clear hK K
    refine HQS.go (fun K hK => ?_)
    go_simp
    apply Exists.intro
    refine ⟨fun W hW => ?_, hK _ ?_⟩
    · (try go_simp)
      exact rfl
    clear hK K
    refine HQS.go (fun K hK => ?_)
    go_simp
    apply Exists.intro
    refine ⟨fun W hW => ?_, hK _ ?_⟩
    · (try go_simp)
      exact rfl
    clear hK K
    refine HQS.go (fun K hK => ?_)
    go_simp
    apply Exists.intro
    refine ⟨fun W hW => ?_, hK _ ?_⟩
    · have q := (HC.out W hW).1
      have ql := lt_of_cell q
      go_simp
      exact rfl
    clear hK K
    refine HQS.go (fun K hK => ?_)
    go_simp
    apply Exists.intro
    refine ⟨fun W hW => ?_, hK _ ?_⟩
    · (try go_simp)
      exact rfl
    clear hK K
    refine HQS.go (fun K hK => ?_)
    go_simp
    apply Exists.intro
    refine ⟨fun W hW => ?_, hK _ ?_⟩
    · (try go_simp)
      exact rfl
    clear hK K
    refine HQS.go (fun K hK => ?_)
    go_simp
    apply Exists.intro
    refine ⟨fun W hW => ?_, hK _ ?_⟩
    · (try go_simp)
      exact rfl
    clear hK K
    refine HQS.go (fun K hK => ?_)
    go_simp
    apply Exists.intro
    refine ⟨fun W hW => ?_, hK _ ?_⟩
    · have q := (HC.out W hW).2
      have ql := lt_of_cell q
      go_simp
      exact rfl
    clear hK K
    refine HQS.go (fun K hK => ?_)
    go_simp
    apply Exists.intro
    refine ⟨fun W hW => ?_, hK _ ?_⟩
    · (try go_simp)
      exact rfl
    clear hK K
    refine HQS.go (fun K hK => ?_)
    go_simp
    apply Exists.intro
    refine ⟨fun W hW => ?_, hK _ ?_⟩
    · (try go_simp)
      exact rfl
    clear hK K
    refine HQS.go (fun K hK => ?_)
    go_simp
    apply Exists.intro
    refine ⟨fun W hW => ?_, hK _ ?_⟩
    · (try go_simp)
      exact rfl
    clear hK K
    refine HQS.go (fun K hK => ?_)
    go_simp
    apply Exists.intro
    refine ⟨fun W hW => ?_, hK _ ?_⟩
    · (try go_simp)
      exact rfl
    clear hK K
    refine HQS.go (fun K hK => ?_)
    go_simp
    apply Exists.intro
    refine ⟨fun W hW => ?_, hK _ ?_⟩
    · have q := (HD.out W hW).1
      have ql := lt_of_cell q
      go_simp
      exact rfl
    clear hK K
    refine HQS.go (fun K hK => ?_)
    go_simp
    apply Exists.intro
    refine ⟨fun W hW => ?_, hK _ ?_⟩
    · (try go_simp)
      exact rfl
    clear hK K
    refine HQS.go (fun K hK => ?_)
    go_simp
    apply Exists.intro
    refine ⟨fun W hW => ?_, hK _ ?_⟩
    · (try go_simp)
      exact rfl
    clear hK K
    refine HQS.go (fun K hK => ?_)
    go_simp
    apply Exists.intro
    refine ⟨fun W hW => ?_, hK _ ?_⟩
    · (try go_simp)
      exact rfl
    clear hK K
    refine HQS.go (fun K hK => ?_)
    go_simp
    apply Exists.intro
    refine ⟨fun W hW => ?_, hK _ ?_⟩
    · have q := (HD.out W hW).2
      have ql := lt_of_cell q
      go_simp
      exact rfl
    clear hK K
    refine HQS.go (fun K hK => ?_)
    go_simp
    apply Exists.intro
    refine ⟨fun W hW => ?_, hK _ ?_⟩
    · (try go_simp)
      exact rfl
    clear hK K
    refine HQS.go (fun K hK => ?_)
    go_simp
    apply Exists.intro
    refine ⟨fun W hW => ?_, hK _ ?_⟩
    · (try go_simp)
      exact rfl
    clear hK K
    refine HQN.go ?_
    intro w8 hW
    have H8 := Lib.hid (below_trans HW.out hW)
    clear hW
    go_wp2
    go_roundw
    case rel => exact ⟨i + 1, by omega, by go_num, H8.out⟩
    case measure => simp [intOf]; omega
  case neg =>
  have HX7 := Lib.hid (below_trans HX6.out HW.out)
  have HXY7 : Hid (∀ W, Below wr.heap.size wr W → Ints W Ax xs ∧ Ints W Ay ys) := Lib.hid (fun W hW => HXY.out W (below_trans HQ6.out (below_trans HW.out hW)))
  have HPR7 : Hid (∀ W, Below wr.heap.size wr W → Prs W Al (shs P m)) := Lib.hid (fun W hW => HPR.out W (below_trans HW.out hW))
  clear HXY HPR HW HQ6 HX6
  obtain ⟨w7, rfl⟩ : ∃ w7 : World, w7 = wr := ⟨_, rfl⟩
  have hex : decide (i < raw.length ∧ i < second.length) = false := decide_eq_false hboth
  have hE0 : (if i < raw.length then decide ((i : Int) < (second.length : Int)) else false) = false := by
    split
    · exact decide_eq_false (by omega)
    · rfl
  have HKE : Hid (¬ (i < raw.length ∧ i < second.length)) := Lib.hid hboth
  clear hboth hex
  by_cases hir : i < raw.length
  all_goals
    have hik := HKE.out
    first
      | (have hi2 : ¬ i < second.length := fun h => hik ⟨hir, h⟩)
      | skip
    clear hik
    go_wp2_with fail
    go_loop [32, 33] (fun u32 u33 => ∃ k : Nat, k ≤ m ∧ u33 = .int .i64 k ∧ u32 = .int .i64 (kcn bts k)) (fun _ u33 => m - (intOf u33).toNat)
    case atStart => exact ⟨0, Nat.zero_le _, rfl, rfl⟩
    case round =>
    obtain ⟨k, hk, rfl, rfl⟩ := hrel
    by_cases hlt : k < m
    case pos =>
      obtain ⟨q, hq, hbe, hs⟩ := HKS.out k
      have hkl := kcn_le bts k
      have HSK := Lib.hid hs
      clear hs
      go_wp2
      go_round
      case rel => exact ⟨k + 1, by omega, by go_num, by rw [HSK.out, Int.natCast_add]⟩
      case measure => simp [intOf]; omega
    case neg =>
    obtain rfl : k = m := by omega
    obtain ⟨kc, hkce⟩ : ∃ kc, kcn bts k = kc := ⟨_, rfl⟩
    rw [hkce] at hkc
    have hkl := kcn_le bts k
    rw [hkce]
    rw [hkce] at hkl
    clear hkce
    have hz1 : decide (kc < nn) = true := decide_eq_true hkc
    have hz2 : decide (nn ≤ kc) = false := decide_eq_false (by omega)
    have hz3 : (kc : Int) < (nn : Int) := by omega
    go_wp2_with fail
    refine (HOP.out Al cl w7 (HPR7.out _ (Below.refl _ _)) (below_trans HB3.out HX7.out)).mono ?_
    rintro e w8 ⟨rfl, hb⟩
    have HX8 := Lib.hid (below_trans HX7.out hb)
    have HQ8 := Lib.hid hb
    clear hb
    go_wp2_with fail
    refine (welement_any _ _).mono ?_
    rintro e _ ⟨rfl, rfl⟩
    rw [HOE.out]
    go_wp2_with fail
    refine (HOT.out Al cl w8 (HPR7.out _ HQ8.out)).mono ?_
    rintro e w9 ⟨C, A1, c1, A2, c2, rfl, hC1, hC0, hCP, hP1, hI2, hb⟩
    have HC1 := Lib.hid hC1
    have HC0 := Lib.hid hC0
    have HCP := Lib.hid hCP
    have HX9 := Lib.hid (below_trans HX8.out hb)
    have HQ9 := Lib.hid (below_trans HQ8.out hb)
    have HP9 : Hid (∀ W, Below w9.heap.size w9 W → Prs W A1 (shs C k) ∧ Ints W A2 (placesL first k (nn - 1))) := Lib.hid (fun W hW => ⟨hP1.below hW, hI2.below hW⟩)
    clear hC1 hC0 hCP hP1 hI2 hb
    go_wp2_with fail
    go_loopw [41] (fun u41 wr => ∃ j : Nat, j ≤ nn - 1 ∧ u41 = .int .i64 j ∧ Below w9.heap.size w9 wr) (fun u41 _ => nn - (intOf u41).toNat)
    case atStart => exact ⟨0, Nat.zero_le _, rfl, Below.refl _ _⟩
    case round =>
    obtain ⟨j, hj, rfl, hb⟩ := hrel
    have HW := Lib.hid hb
    clear hb
    by_cases hjl : j < nn - 1
    case pos =>
      obtain ⟨kk, hkk⟩ : ∃ kk : Nat, kk = (first + j) % k := ⟨_, rfl⟩
      have hkk1 : kk < k := by rw [hkk]; exact Nat.mod_lt _ (by omega)
      have hpl : (placesL first k (nn - 1))[j]? = some (kk : Int) := by simp [placesL, hjl, hkk]
      obtain ⟨b8, o8, rfl, hc8⟩ := (HP9.out wr HW.out).2.at_ hpl
      obtain ⟨b10, o10, rfl, hx1, hx2⟩ := (HP9.out wr HW.out).1.at_ (wo_shs_get C k kk hkk1)
      obtain ⟨b4, o4, rfl, hz1', hz2'⟩ := (HPR7.out wr (below_trans HQ9.out HW.out)).at_ (wo_shs_get P k kk hkk1)
      have hcp := HCP.out j hjl
      rw [← hkk] at hcp
      simp only at hx1 hx2 hz1' hz2'
      rw [hcp] at hx2
      generalize evp P ((kk : Int) + 1) = y at *
      have hkk2 : (kk : Int) < (k : Int) := by omega
      have hjl' : (j : Int) < ((nn - 1 : Nat) : Int) := by omega
      clear hkk hpl hcp
      have hyy : (y == y) = true := by simp
      go_wp2
      go_quiet (fail)
      go_wp2
      go_roundw
      case rel => exact ⟨j + 1, by omega, by go_num, below_drewN HW.out _⟩
      case measure => simp [intOf]; omega
    case neg =>
    have HP10 := Lib.hid (HP9.out wr HW.out).1
    have HX10 := Lib.hid (below_trans HX9.out HW.out)
    have HQ10 := Lib.hid (below_trans HQ9.out HW.out)
    clear HP9 HX9 HQ9 HW
    obtain ⟨w10, rfl⟩ : ∃ w10 : World, w10 = wr := ⟨_, rfl⟩
    go_wp2_with fail
    refine (HOP2.out A1 c1 C w10 HP10.out HC1.out HC0.out (below_trans HB3.out HX10.out)).mono ?_
    rintro e w11 ⟨rfl, hb⟩
    have HX11 := Lib.hid (below_trans HX10.out hb)
    have HQ11 := Lib.hid (below_trans HQ10.out hb)
    clear hb
    go_wp2_with fail
    refine (HBO.out w11 HX11.out).mono ?_
    rintro e w12 ⟨Am, cm, rfl, hr, hb⟩
    have HX12 := Lib.hid (below_trans HX11.out hb)
    have HQ12 := Lib.hid (below_trans HQ11.out hb)
    have HM12 : Hid (∀ W, Below w12.heap.size w12 W → Ints W Am ms) := Lib.hid (fun W hW => hr.below hW)
    clear hr hb
    have hoo : (O != O) = false := by simp
    go_wp2_with fail
    refine (welement_any _ _).mono ?_
    rintro e _ ⟨rfl, rfl⟩
    rw [HOE.out]
    go_wp2_with fail
    refine (HUO.out Ax cx w12 HX12.out (HXY7.out _ HQ12.out).1).mono ?_
    rintro e w13 ⟨Az, cz, rfl, hr, hb⟩
    have HX13 := Lib.hid (below_trans HX12.out hb)
    have HQ13 := Lib.hid (below_trans HQ12.out hb)
    have HMZ : Hid (∀ W, Below w13.heap.size w13 W → Ints W Am ms ∧ Ints W Az zs ∧ Ints W Ax xs ∧ Ints W A20 ma) := Lib.hid (fun W hW => ⟨HM12.out W (below_trans hb hW), hr.below hW, (HXY7.out W (below_trans HQ13.out hW)).1, (HAB.out W (below_trans HX13.out hW)).1⟩)
    clear hr hb HM12
    go_wp2_with fail
    go_loopw [46] (fun u46 wr => ∃ j : Nat, j ≤ raw.length ∧ u46 = .int .i64 j ∧ Below w13.heap.size w13 wr) (fun u46 _ => raw.length - (intOf u46).toNat)
    case atStart => exact ⟨0, Nat.zero_le _, rfl, Below.refl _ _⟩
    case round =>
    obtain ⟨j, hj, rfl, hb⟩ := hrel
    have HW := Lib.hid hb
    clear hb
    by_cases hjl : j < raw.length
    case neg =>
      go_wp2
      go_ret
      exact ⟨rfl, below_trans HB3.out (below_trans HX13.out HW.out)⟩
    case pos =>
    obtain ⟨x, hx⟩ := get_some ma j (by have := HML1.out; omega)
    have hxr := HMR1.out j x hx
    have hd := HF1.out j
    have hd2 := HF2.out j
    obtain ⟨hM, hZ, hX, hA⟩ := HMZ.out wr HW.out
    obtain ⟨bm, om, rfl, q1⟩ := hM.at_ (HG3.out j x hx)
    obtain ⟨bz, oz, rfl, q2⟩ := hZ.at_ (HG4.out j x hx)
    obtain ⟨bx, ox, rfl, q3⟩ := hX.at_ (HG1.out j x hx)
    obtain ⟨ba, oa, rfl, q4⟩ := hA.at_ hx
    obtain ⟨X, hXE⟩ : ∃ X, x + (of1 j : Int) = X := ⟨_, rfl⟩
    obtain ⟨M, hME⟩ : ∃ M, x + (of2 j : Int) = M := ⟨_, rfl⟩
    obtain ⟨Z, hZE⟩ : ∃ Z, X - (of2 j : Int) = Z := ⟨_, rfl⟩
    obtain ⟨D, hDE⟩ : ∃ D, (of2 j : Int) = D := ⟨_, rfl⟩
    rw [hXE, hZE] at q2
    rw [hXE] at q3
    rw [hME] at q1
    have HC : Hid (∀ W, Below wr.heap.size wr W → W.cell? ⟨bz, oz + j, none⟩ = some (.int .i64 Z) ∧ W.cell? ⟨bx, ox + j, none⟩ = some (.int .i64 X)) := Lib.hid (fun W hW => ⟨kept_cell hW q2, kept_cell hW q3⟩)
    have HD : Hid (∀ W, Below wr.heap.size wr W → W.cell? ⟨bm, om + j, none⟩ = some (.int .i64 M) ∧ W.cell? ⟨ba, oa + j, none⟩ = some (.int .i64 x)) := Lib.hid (fun W hW => ⟨kept_cell hW q1, kept_cell hW q4⟩)
    have wr2 : IntKind.i64.wrap (M - x) = D := by rw [IntWalk.i64_in _ (by omega)]; omega
    have wr3 : IntKind.i64.wrap (X - D) = Z := by rw [IntWalk.i64_in _ (by omega)]; omega
    have hji : (j : Int) < (raw.length : Int) := by omega
    have hzz : (Z != Z) = false := by simp
    clear hx q1 q2 q3 q4 hXE hME hZE hDE hxr hd hd2 hM hZ hX hA
    go_wp2_with fail
    refine wp_region_belowC (by kernel_rfl) (by kernel_rfl) (fun WQ HQS HQN => ?_)
    refine HQS.go (fun K hK => ?_)
    go_simp
    apply Exists.intro
    refine ⟨fun W hW => ?_, hK _ ?_⟩
    · (try go_simp)
      exact rfl
    clear hK K
    refine HQS.go (fun K hK => ?_)
    go_simp
    apply Exists.intro
    refine ⟨fun W hW => ?_, hK _ ?_⟩
    · (try go_simp)
      exact rfl
    clear hK K
    refine HQS.go (fun K hK => ?_)
    go_simp
    apply Exists.intro
    refine ⟨fun W hW => ?_, hK _ ?_⟩
    · (try go_simp)
      exact rfl
    clear hK K
    refine HQS.go (fun K hK => ?_)
    go_simp
    apply Exists.intro
    refine ⟨fun W hW => ?_, hK _ ?_⟩
    · have q := (HC.out W hW).1
      have ql := lt_of_cell q
      go_simp
      exact rfl
    clear hK K
    refine HQS.go (fun K hK => ?_)
    go_simp
    apply Exists.intro
    refine ⟨fun W hW => ?_, hK _ ?_⟩
    · (try go_simp)
      exact rfl
    clear hK K
    refine HQS.go (fun K hK => ?_)
    go_simp
    apply Exists.intro
    refine ⟨fun W hW => ?_, hK _ ?_⟩
    · (try go_simp)
      exact rfl
    clear hK K
    refine HQS.go (fun K hK => ?_)
    go_simp
    apply Exists.intro
    refine ⟨fun W hW => ?_, hK _ ?_⟩
    · (try go_simp)
      exact rfl
    clear hK K
    refine HQS.go (fun K hK => ?_)
    go_simp
    apply Exists.intro
    refine ⟨fun W hW => ?_, hK _ ?_⟩
    · have q := (HC.out W hW).2
      have ql := lt_of_cell q
      go_simp
      exact rfl
    clear hK K
    refine HQS.go (fun K hK => ?_)
    go_simp
    apply Exists.intro
    refine ⟨fun W hW => ?_, hK _ ?_⟩
    · (try go_simp)
      exact rfl
    clear hK K
    refine HQS.go (fun K hK => ?_)
    go_simp
    apply Exists.intro
    refine ⟨fun W hW => ?_, hK _ ?_⟩
    · (try go_simp)
      exact rfl
    clear hK K
    refine HQS.go (fun K hK => ?_)
    go_simp
    apply Exists.intro
    refine ⟨fun W hW => ?_, hK _ ?_⟩
    · (try go_simp)
      exact rfl
    clear hK K
    refine HQS.go (fun K hK => ?_)
    go_simp
    apply Exists.intro
    refine ⟨fun W hW => ?_, hK _ ?_⟩
    · have q := (HD.out W hW).1
      have ql := lt_of_cell q
      go_simp
      exact rfl
    clear hK K
    refine HQS.go (fun K hK => ?_)
    go_simp
    apply Exists.intro
    refine ⟨fun W hW => ?_, hK _ ?_⟩
    · (try go_simp)
      exact rfl
    clear hK K
    refine HQS.go (fun K hK => ?_)
    go_simp
    apply Exists.intro
    refine ⟨fun W hW => ?_, hK _ ?_⟩
    · (try go_simp)
      exact rfl
    clear hK K
    refine HQS.go (fun K hK => ?_)
    go_simp
    apply Exists.intro
    refine ⟨fun W hW => ?_, hK _ ?_⟩
    · (try go_simp)
      exact rfl
    clear hK K
    refine HQS.go (fun K hK => ?_)
    go_simp
    apply Exists.intro
    refine ⟨fun W hW => ?_, hK _ ?_⟩
    · have q := (HD.out W hW).2
      have ql := lt_of_cell q
      go_simp
      exact rfl
    clear hK K
    refine HQS.go (fun K hK => ?_)
    go_simp
    apply Exists.intro
    refine ⟨fun W hW => ?_, hK _ ?_⟩
    · (try go_simp)
      exact rfl
    clear hK K
    refine HQS.go (fun K hK => ?_)
    go_simp
    apply Exists.intro
    refine ⟨fun W hW => ?_, hK _ ?_⟩
    · (try go_simp)
      exact rfl
    clear hK K
    refine HQS.go (fun K hK => ?_)
    go_simp
    apply Exists.intro
    refine ⟨fun W hW => ?_, hK _ ?_⟩
    · (try go_simp)
      exact rfl
    clear hK K
    refine HQN.go ?_
    intro w14 hW
    have H8 := Lib.hid (below_trans HW.out hW)
    clear hW
    go_wp2
    go_roundw
    case rel => exact ⟨j + 1, by omega, by go_num, H8.out⟩
    case measure => simp [intOf]; omega
end

section
open Go.RowKit

set_option maxRecDepth 100000 in
set_option maxHeartbeats 64000000 in
theorem topb_all (A : Option Addr) (c : Nat) (raw : List Int) (B : Option Addr) (d : Nat) (second : List Int) (secret other : Int) (E : Option Addr) (f : Nat) (list : List Int) (a b bts first : Nat) (w : World) (hT : Tabs w) (hA : Ints w A raw) (hB : Ints w B second) (hE : Ints w E list) (h1 : raw.length ≤ 9223372036854775807) (h2 : second.length ≤ 9223372036854775807) (h3 : list.length ≤ 9223372036854775807) (ha : a < 256) (hb : b < 256) (hbts : bts < 256) (hfirst : first < 256) (hz_a : ¬ 12 < raw.length) (hz_b : ¬ 12 < second.length) (hkc : ¬ kcn bts (1 + a % 4 + b % 3) < 1 + a % 4) :
    Calls Tryz.prog 3 #[.slice A raw.length c, .slice B second.length d, .int .i64 secret, .int .i64 other, .slice E list.length f, .int .u8 a, .int .u8 b, .int .u8 bts, .int .u8 first] w fun e w' => e = .returned (.bool true) ∧ Below w.heap.size w w' := by
  have HH := Lib.hid (whidden_any w hT)
  have HT : Hid (∀ W, Below w.heap.size w W → Tabs W) := Lib.hid (fun W hW => hT.below hW)
  have HA := Lib.hid hA
  have HB := Lib.hid hB
  obtain ⟨i0, hi0, hz0, hz1, hz2⟩ := info_parts info_int
  have HI := Lib.hid (And.intro hi0 (And.intro hz0 (And.intro hz1 hz2)))
  have HMO1 := Lib.hid (md_ok raw secret (by omega))
  have HMO2 := Lib.hid (md_ok second secret (by omega))
  have HML1 := Lib.hid (md_len raw)
  have HML2 := Lib.hid (md_len second)
  have HMG1 : Hid (∀ (k : Nat) (x : Int), raw[k]? = some x → (md raw)[k]? = some (x.tmod 1000000001)) := Lib.hid (fun k x h => md_get h)
  have HMG2 : Hid (∀ (k : Nat) (x : Int), second[k]? = some x → (md second)[k]? = some (x.tmod 1000000001)) := Lib.hid (fun k x h => md_get h)
  have HMR1 : Hid (∀ (k : Nat) (y : Int), (md raw)[k]? = some y → -1000000000 ≤ y ∧ y ≤ 1000000000) := Lib.hid (fun k y h => by
    obtain ⟨x, _, rfl⟩ := List.mem_map.1 (List.mem_of_getElem? h)
    exact tm_range x)
  have HMR2 : Hid (∀ (k : Nat) (y : Int), (md second)[k]? = some y → -1000000000 ≤ y ∧ y ≤ 1000000000) := Lib.hid (fun k y h => by
    obtain ⟨x, _, rfl⟩ := List.mem_map.1 (List.mem_of_getElem? h)
    exact tm_range x)
  obtain ⟨nn, hn⟩ : ∃ n, n = 1 + a % 4 := ⟨_, rfl⟩
  obtain ⟨m, hm⟩ : ∃ m, m = 1 + a % 4 + b % 3 := ⟨_, rfl⟩
  have hn1 : 1 ≤ nn := by omega
  have hnm : nn ≤ m := by omega
  have hm6 : m ≤ 6 := by omega
  have hpl : ((secret % 2147483647) :: madeL list (a % 4)).length ≤ nn := by rw [List.length_cons, madeL_length]; omega
  have hp0 : evp ((secret % 2147483647) :: madeL list (a % 4)) 0 = secret % 2147483647 := evp_zero _ _ (elemB_mod secret)
  have HSH : Hid (∀ W, Below w.heap.size w W → Calls Tryz.prog 11 #[.int .i64 secret, .slice E list.length f, .int .u8 a, .int .u8 b] W fun e w' => ∃ A' c', e = .returned (.tuple #[.slice A' m c', .int .i64 nn, .bool true]) ∧ Prs w' A' (shs ((secret % 2147483647) :: madeL list (a % 4)) m) ∧ Below W.heap.size W w') := Lib.hid (fun W hW => by
    have := wshares_any secret E f list a b W (hE.below hW) h3 ha hb
    rw [← hm, ← hn] at this
    refine this.mono ?_
    rintro e w' ⟨v, rfl, ho, hb⟩
    obtain ⟨A1, c1, rfl, -, -, hr1⟩ := Rd.of_own ho
    exact ⟨A1, c1, rfl, by unfold Prs; rw [shs_length]; exact hr1, hb⟩)
  rw [← hm, ← hn] at hkc
  generalize ((secret % 2147483647) :: madeL list (a % 4)) = P at *
  have HOP : Hid (∀ (Z : Option Addr) (cz : Nat) W, Prs W Z (shs P m) → Below w.heap.size w W → Calls Tryz.prog 12 #[.slice Z m cz, .int .i64 nn, .int .u8 bts] W fun e w' => e = .returned (.tuple #[.int .i64 (secret % 2147483647), .int .i64 0]) ∧ Below W.heap.size W w') := Lib.hid (fun Z cz W hZ hW => by
    have := wopened_any Z cz P nn m bts W hZ (hT.below hW) hn1 hnm hm6 hpl hbts
    rw [if_neg hkc, if_neg hkc, hp0] at this
    exact this)
  have HOP2 : Hid (∀ (Z : Option Addr) (cz : Nat) (C : List Int) W, Prs W Z (shs C m) → C.length ≤ nn → evp C 0 = other % 2147483647 → Below w.heap.size w W → Calls Tryz.prog 12 #[.slice Z m cz, .int .i64 nn, .int .u8 255] W fun e w' => e = .returned (.tuple #[.int .i64 (other % 2147483647), .int .i64 0]) ∧ Below W.heap.size W w') := Lib.hid (fun Z cz C W hZ hC h0 hW => by
    have := wopened_any Z cz C nn m 255 W hZ (hT.below hW) hn1 hnm hm6 hC (by omega)
    rw [kcn_all m hm6, if_neg (by omega), if_neg (by omega), h0] at this
    exact this)
  have HOT : Hid (∀ (Z : Option Addr) (cz : Nat) W, Prs W Z (shs P m) → _) := Lib.hid (fun Z cz W hZ => wother_any Z cz P nn m first (other % 2147483647) W hZ hn1 hnm hm6 (tb_elem other) hfirst)
  have HKS : Hid (∀ k, _) := Lib.hid (fun k => kcn_step bts k hbts)
  have HEO := Lib.hid (tb_elem other)
  generalize md raw = ma at *
  generalize md second = mb at *
  clear hi0 hz0 hz1 hz2 hT hA hB hE hn hm hp0 hpl h1 h2 h3
  have hd1_a : decide (12 < raw.length) = false := decide_eq_false hz_a
  have hi1_a : ¬ (12 : Int) < (raw.length : Int) := by omega
  have hd2_a : decide ((12 : Int) < (raw.length : Int)) = false := decide_eq_false hi1_a
  have hd1_b : decide (12 < second.length) = false := decide_eq_false hz_b
  have hi1_b : ¬ (12 : Int) < (second.length : Int) := by omega
  have hd2_b : decide ((12 : Int) < (second.length : Int)) = false := decide_eq_false hi1_b
  go_enter Tryz.func3, Tryz.ntmps3
  go_wp2_with fail
  refine (HH.out).mono ?_
  rintro e w1 ⟨rfl, hb⟩
  have HB1 := Lib.hid hb
  clear hb
  have HO0 : Hid (w1.ownsRow w1.heap.size 3 1 (.slice none 0 0) 0 []) := ⟨rfl, .inl ⟨rfl, rfl⟩⟩
  go_wp2_with fail
  go_loopw [20, 22] (fun us uc wr => ∃ k : Nat, k ≤ raw.length ∧ uc = .int .i64 k ∧ Below w1.heap.size w1 wr ∧ wr.ownsRow w1.heap.size 3 1 us k ((ma.take k).map (Value.int .i64))) (fun _ uc _ => raw.length - (intOf uc).toNat)
  case atStart => exact ⟨0, Nat.zero_le _, rfl, Below.refl _ _, HO0.out⟩
  case round =>
  obtain ⟨k, hk, rfl, hb, ho⟩ := hrel
  have HBk := Lib.hid hb
  have HOk := Lib.hid ho
  clear hb ho
  by_cases hlt : k < raw.length
  case pos =>
    obtain ⟨x, hx⟩ := get_some raw k hlt
    obtain ⟨bb, off, rfl, hcell⟩ := (HA.out.below (below_trans HB1.out HBk.out)).at_ hx
    have hcl := lt_of_cell hcell
    have HX := Lib.hid (HMG1.out k x hx)
    clear hx
    generalize hy : x.tmod 1000000001 = y at *
    go_wp2_with (at_builtin; refine wpList_app _ rfl (.tmp 63) (.tmp 69) 22 22 rfl w1.heap.size 3 3 i0 _ 1 8 Tryz.underlying22 Tryz.underlying22 HI.out.1 HI.out.2.1 HI.out.2.2.1 HI.out.2.2.2 rfl (by omega) _ k _ rfl (HOk.out.alloc _) _ 1 1 [.int .i64 y] rfl (Rd_new wr #[.int .i64 y] _ 1 1 _ rfl rfl) (by simp [Value.oneCell']) (by simp only [maxLen]; omega) (by omega) (by have := HBk.out.size; simp; omega) ?_)
    intro v1 w4 hown4 hg4
    have HB4 : Hid (Below w1.heap.size w1 w4) := Lib.hid ((below_alloc HBk.out _).grown hg4 (by have := HBk.out.size; simp; omega) (fun j hj => (HOk.out.lt j hj).1))
    have HOWN4 := Lib.hid hown4
    clear hown4 hg4 hy
    go_wp2
    go_roundw
    case rel => exact ⟨k + 1, by omega, by go_num, HB4.out, by rw [take_snoc _ _ _ HX.out, List.map_append, List.map_take]; exact HOWN4.out⟩
    case measure => simp [intOf]; omega
  case neg =>
  obtain rfl : k = raw.length := by omega
  obtain ⟨A20, c20, rfl, -, -, hr20⟩ := Rd.of_own HOk.out
  have hI8 : Ints wr A20 ma := by
    unfold Ints
    rw [HML1.out]
    rw [List.take_of_length_le (by rw [HML1.out]; exact Nat.le_refl _)] at hr20
    exact hr20
  have HI8 : Hid (∀ W, Below wr.heap.size wr W → Ints W A20 ma) := Lib.hid (fun W hW => hI8.below hW)
  have HB2 := Lib.hid (below_trans HB1.out HBk.out)
  clear hI8 hr20 HOk HBk HO0
  obtain ⟨w2, rfl⟩ : ∃ w2 : World, w2 = wr := ⟨_, rfl⟩
  have HO0 : Hid (w2.ownsRow w2.heap.size 3 1 (.slice none 0 0) 0 []) := ⟨rfl, .inl ⟨rfl, rfl⟩⟩
  go_wp2_with fail
  go_loopw [21, 23] (fun us uc wr => ∃ k : Nat, k ≤ second.length ∧ uc = .int .i64 k ∧ Below w2.heap.size w2 wr ∧ wr.ownsRow w2.heap.size 3 1 us k ((mb.take k).map (Value.int .i64))) (fun _ uc _ => second.length - (intOf uc).toNat)
  case atStart => exact ⟨0, Nat.zero_le _, rfl, Below.refl _ _, HO0.out⟩
  case round =>
  obtain ⟨k, hk, rfl, hb, ho⟩ := hrel
  have HBk := Lib.hid hb
  have HOk := Lib.hid ho
  clear hb ho
  by_cases hlt : k < second.length
  case pos =>
    obtain ⟨x, hx⟩ := get_some second k hlt
    obtain ⟨bb, off, rfl, hcell⟩ := (HB.out.below (below_trans HB2.out HBk.out)).at_ hx
    have hcl := lt_of_cell hcell
    have HX := Lib.hid (HMG2.out k x hx)
    clear hx
    generalize hy : x.tmod 1000000001 = y at *
    go_wp2_with (at_builtin; refine wpList_app _ rfl (.tmp 77) (.tmp 83) 22 22 rfl w2.heap.size 3 3 i0 _ 1 8 Tryz.underlying22 Tryz.underlying22 HI.out.1 HI.out.2.1 HI.out.2.2.1 HI.out.2.2.2 rfl (by omega) _ k _ rfl (HOk.out.alloc _) _ 1 1 [.int .i64 y] rfl (Rd_new wr #[.int .i64 y] _ 1 1 _ rfl rfl) (by simp [Value.oneCell']) (by simp only [maxLen]; omega) (by omega) (by have := HBk.out.size; simp; omega) ?_)
    intro v1 w4 hown4 hg4
    have HB4 : Hid (Below w2.heap.size w2 w4) := Lib.hid ((below_alloc HBk.out _).grown hg4 (by have := HBk.out.size; simp; omega) (fun j hj => (HOk.out.lt j hj).1))
    have HOWN4 := Lib.hid hown4
    clear hown4 hg4 hy
    go_wp2
    go_roundw
    case rel => exact ⟨k + 1, by omega, by go_num, HB4.out, by rw [take_snoc _ _ _ HX.out, List.map_append, List.map_take]; exact HOWN4.out⟩
    case measure => simp [intOf]; omega
  case neg =>
  obtain rfl : k = second.length := by omega
  obtain ⟨A21, c21, rfl, -, -, hr21⟩ := Rd.of_own HOk.out
  have hI9 : Ints wr A21 mb := by
    unfold Ints
    rw [HML2.out]
    rw [List.take_of_length_le (by rw [HML2.out]; exact Nat.le_refl _)] at hr21
    exact hr21
  have HAB : Hid (∀ W, Below wr.heap.size wr W → Ints W A20 ma ∧ Ints W A21 mb) := Lib.hid (fun W hW => ⟨HI8.out W (below_trans HBk.out hW), hI9.below hW⟩)
  have HB3 := Lib.hid (below_trans HB2.out HBk.out)
  clear hI9 hr21 HOk HBk HO0 HI8
  obtain ⟨w3, rfl⟩ : ∃ w3 : World, w3 = wr := ⟨_, rfl⟩
  have hle1 := HML1.out
  have hle2 := HML2.out
  obtain ⟨S, hS⟩ : ∃ S, secret % 2147483647 = S := ⟨_, rfl⟩
  obtain ⟨O, hO⟩ : ∃ O, other % 2147483647 = O := ⟨_, rfl⟩
  have hmo1 := HMO1.out
  have hmo2 := HMO2.out
  have heo := HEO.out
  rw [hS] at hmo1 hmo2
  rw [hO] at heo
  have hbl1 := blL_len hmo1
  have hbl2 := blL_len hmo2
  have hbk := back_ok hmo1
  have hxo := mvOk_other hbk.1 heo
  have hul := unL_len hxo
  have hmo := mvOk_other hmo1 heo
  have hml := blL_len hmo
  rw [hbl1, hle1] at hul
  have HX3 : Hid (Below w3.heap.size w3 w3) := Lib.hid (Below.refl _ _)
  have HBA : Hid (∀ W, Below w3.heap.size w3 W → Calls Tryz.prog 9 #[.slice A20 raw.length c20, .int .i64 S] W fun e w' => ∃ Z cz, e = .returned (.tuple #[.slice Z raw.length cz, .int .i64 0]) ∧ Ints w' Z (blL ma S) ∧ Below W.heap.size W w') := Lib.hid (fun W hW => by
    have := blind_any A20 c20 ma S W (HAB.out W hW).1 (by omega) (HT.out W (below_trans HB3.out hW))
    rw [hmo1, if_pos rfl, hle1] at this
    refine this.mono ?_
    rintro e w' ⟨v, rfl, ho, hb⟩
    obtain ⟨Z, cz, rfl, -, -, hr⟩ := Rd.of_own ho
    exact ⟨Z, cz, by rw [hbl1, hle1], hr, hb⟩)
  have HBB : Hid (∀ W, Below w3.heap.size w3 W → Calls Tryz.prog 9 #[.slice A21 second.length c21, .int .i64 S] W fun e w' => ∃ Z cz, e = .returned (.tuple #[.slice Z second.length cz, .int .i64 0]) ∧ Ints w' Z (blL mb S) ∧ Below W.heap.size W w') := Lib.hid (fun W hW => by
    have := blind_any A21 c21 mb S W (HAB.out W hW).2 (by omega) (HT.out W (below_trans HB3.out hW))
    rw [hmo2, if_pos rfl, hle2] at this
    refine this.mono ?_
    rintro e w' ⟨v, rfl, ho, hb⟩
    obtain ⟨Z, cz, rfl, -, -, hr⟩ := Rd.of_own ho
    exact ⟨Z, cz, by rw [hbl2, hle2], hr, hb⟩)
  have HBO : Hid (∀ W, Below w3.heap.size w3 W → Calls Tryz.prog 9 #[.slice A20 raw.length c20, .int .i64 O] W fun e w' => ∃ Z cz, e = .returned (.tuple #[.slice Z raw.length cz, .int .i64 0]) ∧ Ints w' Z (blL ma O) ∧ Below W.heap.size W w') := Lib.hid (fun W hW => by
    have := blind_any A20 c20 ma O W (HAB.out W hW).1 (by omega) (HT.out W (below_trans HB3.out hW))
    rw [hmo, if_pos rfl, hle1] at this
    refine this.mono ?_
    rintro e w' ⟨v, rfl, ho, hb⟩
    obtain ⟨Z, cz, rfl, -, -, hr⟩ := Rd.of_own ho
    exact ⟨Z, cz, by rw [hml, hle1], hr, hb⟩)
  have HUN : Hid (∀ (Y : Option Addr) (cy : Nat) W, Below w3.heap.size w3 W → Ints W Y (blL ma S) → Calls Tryz.prog 13 #[.slice Y raw.length cy, .int .i64 S] W fun e w' => ∃ Z cz, e = .returned (.tuple #[.slice Z raw.length cz, .int .i64 0]) ∧ Ints w' Z ma ∧ Below W.heap.size W w') := Lib.hid (fun Y cy W hW hY => by
    have := unblind_any Y cy (blL ma S) S W hY (by rw [hbl1]; omega) (HT.out W (below_trans HB3.out hW))
    rw [hbk.1, hbk.2, if_pos rfl, hbl1, hle1] at this
    refine this.mono ?_
    rintro e w' ⟨v, rfl, ho, hb⟩
    obtain ⟨Z, cz, rfl, -, -, hr⟩ := Rd.of_own ho
    exact ⟨Z, cz, rfl, by unfold Ints; rw [hle1]; exact hr, hb⟩)
  have HUO : Hid (∀ (Y : Option Addr) (cy : Nat) W, Below w3.heap.size w3 W → Ints W Y (blL ma S) → Calls Tryz.prog 13 #[.slice Y raw.length cy, .int .i64 O] W fun e w' => ∃ Z cz, e = .returned (.tuple #[.slice Z raw.length cz, .int .i64 0]) ∧ Ints w' Z (unL (blL ma S) O) ∧ Below W.heap.size W w') := Lib.hid (fun Y cy W hW hY => by
    have := unblind_any Y cy (blL ma S) O W hY (by rw [hbl1]; omega) (HT.out W (below_trans HB3.out hW))
    rw [hxo, if_pos rfl, hbl1, hle1] at this
    refine this.mono ?_
    rintro e w' ⟨v, rfl, ho, hb⟩
    obtain ⟨Z, cz, rfl, -, -, hr⟩ := Rd.of_own ho
    exact ⟨Z, cz, by rw [hul], hr, hb⟩)
  have HG1 : Hid (∀ (i : Nat) (x : Int), ma[i]? = some x → (blL ma S)[i]? = some (x + (offN S.toNat i : Int))) := Lib.hid (fun i x h => blL_get hmo1 h)
  have HG2 : Hid (∀ (i : Nat) (x : Int), mb[i]? = some x → (blL mb S)[i]? = some (x + (offN S.toNat i : Int))) := Lib.hid (fun i x h => blL_get hmo2 h)
  have HG3 : Hid (∀ (i : Nat) (x : Int), ma[i]? = some x → (blL ma O)[i]? = some (x + (offN O.toNat i : Int))) := Lib.hid (fun i x h => blL_get hmo h)
  have HG4 : Hid (∀ (i : Nat) (x : Int), ma[i]? = some x → (unL (blL ma S) O)[i]? = some (x + (offN S.toNat i : Int) - (offN O.toNat i : Int))) := Lib.hid (fun i x h => unL_get hxo (blL_get hmo1 h))
  have HF1 : Hid (∀ i, offN S.toNat i < 1000003) := Lib.hid (fun i => offN_lt _ i)
  have HF2 : Hid (∀ i, offN O.toNat i < 1000003) := Lib.hid (fun i => offN_lt _ i)
  generalize unL (blL ma S) O = zs at *
  generalize blL ma S = xs at *
  generalize blL mb S = ys at *
  generalize blL ma O = ms at *
  generalize offN S.toNat = of1 at *
  generalize offN O.toNat = of2 at *
  rw [hO] at HOP2 HOT
  have HSE := Lib.hid hS
  have HOE := Lib.hid hO
  rw [hS] at HOP
  clear hmo1 hmo2 heo hbl1 hbl2 hbk hxo hul hmo hml hle1 hle2 hS hO
  go_wp2_with fail
  refine (welement_any _ _).mono ?_
  rintro e _ ⟨rfl, rfl⟩
  rw [HSE.out]
  go_wp2_with fail
  refine (HBA.out w3 HX3.out).mono ?_
  rintro e w4 ⟨Ax, cx, rfl, hr, hb⟩
  have HX4 := Lib.hid hb
  have HIX : Hid (∀ W, Below w4.heap.size w4 W → Ints W Ax xs) := Lib.hid (fun W hW => hr.below hW)
  clear hr hb
  go_wp2_with fail
  refine (welement_any _ _).mono ?_
  rintro e _ ⟨rfl, rfl⟩
  rw [HSE.out]
  go_wp2_with fail
  refine (HBB.out w4 HX4.out).mono ?_
  rintro e w5 ⟨Ay, cy, rfl, hr, hb⟩
  have HX5 := Lib.hid (below_trans HX4.out hb)
  have HXY : Hid (∀ W, Below w5.heap.size w5 W → Ints W Ax xs ∧ Ints W Ay ys) := Lib.hid (fun W hW => ⟨HIX.out W (below_trans hb hW), hr.below hW⟩)
  clear hr hb HIX
  go_wp2_with fail
  refine (HSH.out w5 (below_trans HB3.out HX5.out)).mono ?_
  rintro e w6 ⟨Al, cl, rfl, hr, hb⟩
  have HX6 := Lib.hid (below_trans HX5.out hb)
  have HQ6 : Hid (Below w5.heap.size w5 w6) := Lib.hid hb
  have HPR : Hid (∀ W, Below w6.heap.size w6 W → Prs W Al (shs P m)) := Lib.hid (fun W hW => hr.below hW)
  clear hr hb
  have hl1 : ((raw.length : Int) != (raw.length : Int)) = false := by simp
  have hl2 : ((second.length : Int) != (second.length : Int)) = false := by simp
  have hl3 : ((m : Int) == 0) = false := by simp; omega
  have hl4 : ((m : Int) != (m : Int)) = false := by simp
  go_wp2_with fail
  go_loopw [31] (fun u31 wr => ∃ i : Nat, i ≤ raw.length ∧ u31 = .int .i64 i ∧ Below w6.heap.size w6 wr) (fun u31 _ => raw.length - (intOf u31).toNat)
  case atStart => exact ⟨0, Nat.zero_le _, rfl, Below.refl _ _⟩
  case round =>
  obtain ⟨i, hi, rfl, hb⟩ := hrel
  have HW := Lib.hid hb
  clear hb
  by_cases hboth : i < raw.length ∧ i < second.length
  case pos =>
    obtain ⟨hlt, hlb⟩ := hboth
    obtain ⟨x, hx⟩ := get_some ma i (by have := HML1.out; omega)
    obtain ⟨y, hy⟩ := get_some mb i (by have := HML2.out; omega)
    have hxr := HMR1.out i x hx
    have hyr := HMR2.out i y hy
    have hd := HF1.out i
    obtain ⟨bx, ox, rfl, q1⟩ := (HXY.out _ (below_trans HQ6.out HW.out)).1.at_ (HG1.out i x hx)
    obtain ⟨by_, oy, rfl, q2⟩ := (HXY.out _ (below_trans HQ6.out HW.out)).2.at_ (HG2.out i y hy)
    obtain ⟨ba, oa, rfl, q3⟩ := (HAB.out _ (below_trans HX6.out HW.out)).1.at_ hx
    obtain ⟨bb, ob, rfl, q4⟩ := (HAB.out _ (below_trans HX6.out HW.out)).2.at_ hy
    have HC : Hid (∀ W, Below wr.heap.size wr W → W.cell? ⟨bx, ox + i, none⟩ = some (.int .i64 (x + (of1 i : Int))) ∧ W.cell? ⟨by_, oy + i, none⟩ = some (.int .i64 (y + (of1 i : Int)))) := Lib.hid (fun W hW => ⟨kept_cell hW q1, kept_cell hW q2⟩)
    have HD : Hid (∀ W, Below wr.heap.size wr W → W.cell? ⟨ba, oa + i, none⟩ = some (.int .i64 x) ∧ W.cell? ⟨bb, ob + i, none⟩ = some (.int .i64 y)) := Lib.hid (fun W hW => ⟨kept_cell hW q3, kept_cell hW q4⟩)
    obtain ⟨X, hX⟩ : ∃ X, x + (of1 i : Int) = X := ⟨_, rfl⟩
    obtain ⟨Y, hY⟩ : ∃ Y, y + (of1 i : Int) = Y := ⟨_, rfl⟩
    rw [hX, hY] at HC
    have wr2 : IntKind.i64.wrap (X - Y) = x - y := by rw [IntWalk.i64_in _ (by omega)]; omega
    have wr3 : IntKind.i64.wrap (x - y) = x - y := by rw [IntWalk.i64_in _ (by omega)]
    have hli : (i : Int) < (raw.length : Int) := by omega
    have hlj : (i : Int) < (second.length : Int) := by omega
    clear hx hy q1 q2 q3 q4 hX hY hxr hyr hd
    go_wp2_with fail
    refine wp_region_belowC (by kernel_rfl) (by kernel_rfl) (fun WQ HQS HQN => ?_)
    refine HQS.go (fun K hK => ?_)
    go_simp
    apply Exists.intro
    refine ⟨fun W hW => ?_, hK _ ?_⟩
    · (try go_simp)
      exact rfl
    clear hK K
    refine HQS.go (fun K hK => ?_)
    go_simp
    apply Exists.intro
    refine ⟨fun W hW => ?_, hK _ ?_⟩
    · (try go_simp)
      exact rfl
    clear hK K
    refine HQS.go (fun K hK => ?_)
    go_simp
    apply Exists.intro
    refine ⟨fun W hW => ?_, hK _ ?_⟩
    · (try go_simp)
      exact rfl
    clear hK K
    refine HQS.go (fun K hK => ?_)
    go_simp
    apply Exists.intro
    refine ⟨fun W hW => ?_, hK _ ?_⟩
    · have q := (HC.out W hW).1
      have ql := lt_of_cell q
      go_simp
      exact rfl
    clear hK K
    refine HQS.go (fun K hK => ?_)
    go_simp
    apply Exists.intro
    refine ⟨fun W hW => ?_, hK _ ?_⟩
    · (try go_simp)
      exact rfl
    clear hK K
    refine HQS.go (fun K hK => ?_)
    go_simp
    apply Exists.intro
    refine ⟨fun W hW => ?_, hK _ ?_⟩
    · (try go_simp)
      exact rfl
    clear hK K
    refine HQS.go (fun K hK => ?_)
    go_simp
    apply Exists.intro
    refine ⟨fun W hW => ?_, hK _ ?_⟩
    · (try go_simp)
      exact rfl
    clear hK K
    refine HQS.go (fun K hK => ?_)
    go_simp
    apply Exists.intro
    refine ⟨fun W hW => ?_, hK _ ?_⟩
    · have q := (HC.out W hW).2
      have ql := lt_of_cell q
      go_simp
      exact rfl
    clear hK K
    refine HQS.go (fun K hK => ?_)
    go_simp
    apply Exists.intro
    refine ⟨fun W hW => ?_, hK _ ?_⟩
    · (try go_simp)
      exact rfl
    clear hK K
    refine HQS.go (fun K hK => ?_)
    go_simp
    apply Exists.intro
    refine ⟨fun W hW => ?_, hK _ ?_⟩
    · (try go_simp)
      exact rfl
    clear hK K
    refine HQS.go (fun K hK => ?_)
    go_simp
    apply Exists.intro
    refine ⟨fun W hW => ?_, hK _ ?_⟩
    · (try go_simp)
      exact rfl
    clear hK K
    refine HQS.go (fun K hK => ?_)
    go_simp
    apply Exists.intro
    refine ⟨fun W hW => ?_, hK _ ?_⟩
    · (try go_simp)
      exact rfl
    clear hK K
    refine HQS.go (fun K hK => ?_)
    go_simp
    apply Exists.intro
    refine ⟨fun W hW => ?_, hK _ ?_⟩
    · have q := (HD.out W hW).1
      have ql := lt_of_cell q
      go_simp
      exact rfl
    clear hK K
    refine HQS.go (fun K hK => ?_)
    go_simp
    apply Exists.intro
    refine ⟨fun W hW => ?_, hK _ ?_⟩
    · (try go_simp)
      exact rfl
    clear hK K
    refine HQS.go (fun K hK => ?_)
    go_simp
    apply Exists.intro
    refine ⟨fun W hW => ?_, hK _ ?_⟩
    · (try go_simp)
      exact rfl
    clear hK K
    refine HQS.go (fun K hK => ?_)
    go_simp
    apply Exists.intro
    refine ⟨fun W hW => ?_, hK _ ?_⟩
    · (try go_simp)
      exact rfl
    clear hK K
    refine HQS.go (fun K hK => ?_)
    go_simp
    apply Exists.intro
    refine ⟨fun W hW => ?_, hK _ ?_⟩
    · have q := (HD.out W hW).2
      have ql := lt_of_cell q
      go_simp
      exact rfl
    clear hK K
    refine HQS.go (fun K hK => ?_)
    go_simp
    apply Exists.intro
    refine ⟨fun W hW => ?_, hK _ ?_⟩
    · (try go_simp)
      exact rfl
    clear hK K
    refine HQS.go (fun K hK => ?_)
    go_simp
    apply Exists.intro
    refine ⟨fun W hW => ?_, hK _ ?_⟩
    · (try go_simp)
      exact rfl
    clear hK K
    refine HQN.go ?_
    intro w8 hW
    have H8 := Lib.hid (below_trans HW.out hW)
    clear hW
    go_wp2
    go_roundw
    case rel => exact ⟨i + 1, by omega, by go_num, H8.out⟩
    case measure => simp [intOf]; omega
  case neg =>
  have HX7 := Lib.hid (below_trans HX6.out HW.out)
  have HXY7 : Hid (∀ W, Below wr.heap.size wr W → Ints W Ax xs ∧ Ints W Ay ys) := Lib.hid (fun W hW => HXY.out W (below_trans HQ6.out (below_trans HW.out hW)))
  have HPR7 : Hid (∀ W, Below wr.heap.size wr W → Prs W Al (shs P m)) := Lib.hid (fun W hW => HPR.out W (below_trans HW.out hW))
  clear HXY HPR HW HQ6 HX6
  obtain ⟨w7, rfl⟩ : ∃ w7 : World, w7 = wr := ⟨_, rfl⟩
  have hex : decide (i < raw.length ∧ i < second.length) = false := decide_eq_false hboth
  have hE0 : (if i < raw.length then decide ((i : Int) < (second.length : Int)) else false) = false := by
    split
    · exact decide_eq_false (by omega)
    · rfl
  have HKE : Hid (¬ (i < raw.length ∧ i < second.length)) := Lib.hid hboth
  clear hboth hex
  by_cases hir : i < raw.length
  all_goals
    have hik := HKE.out
    first
      | (have hi2 : ¬ i < second.length := fun h => hik ⟨hir, h⟩)
      | skip
    clear hik
    go_wp2_with fail
    go_loop [32, 33] (fun u32 u33 => ∃ k : Nat, k ≤ m ∧ u33 = .int .i64 k ∧ u32 = .int .i64 (kcn bts k)) (fun _ u33 => m - (intOf u33).toNat)
    case atStart => exact ⟨0, Nat.zero_le _, rfl, rfl⟩
    case round =>
    obtain ⟨k, hk, rfl, rfl⟩ := hrel
    by_cases hlt : k < m
    case pos =>
      obtain ⟨q, hq, hbe, hs⟩ := HKS.out k
      have hkl := kcn_le bts k
      have HSK := Lib.hid hs
      clear hs
      go_wp2
      go_round
      case rel => exact ⟨k + 1, by omega, by go_num, by rw [HSK.out, Int.natCast_add]⟩
      case measure => simp [intOf]; omega
    case neg =>
    obtain rfl : k = m := by omega
    obtain ⟨kc, hkce⟩ : ∃ kc, kcn bts k = kc := ⟨_, rfl⟩
    rw [hkce] at hkc
    have hkl := kcn_le bts k
    rw [hkce]
    rw [hkce] at hkl
    clear hkce
    have hz1 : decide (kc < nn) = false := decide_eq_false hkc
    have hz2 : decide (nn ≤ kc) = true := decide_eq_true (by omega)
    have hz3 : ¬ (kc : Int) < (nn : Int) := by omega
    go_wp2_with fail
    refine (HOP.out Al cl w7 (HPR7.out _ (Below.refl _ _)) (below_trans HB3.out HX7.out)).mono ?_
    rintro e w8 ⟨rfl, hb⟩
    have HX8 := Lib.hid (below_trans HX7.out hb)
    have HQ8 := Lib.hid hb
    clear hb
    go_wp2_with fail
    refine (welement_any _ _).mono ?_
    rintro e _ ⟨rfl, rfl⟩
    rw [HSE.out]
    have hss : (S != S) = false := by simp
    go_wp2_with fail
    refine (HUN.out Ax cx w8 HX8.out (HXY7.out _ HQ8.out).1).mono ?_
    rintro e w8b ⟨Az, cz, rfl, hr, hb⟩
    have HX8b := Lib.hid (below_trans HX8.out hb)
    have HQ8b := Lib.hid (below_trans HQ8.out hb)
    have hsm := wsame_any Az A20 cz c20 ma ma w8b hr (HAB.out w8b HX8b.out).1 (by have := HML1.out; omega) (by have := HML1.out; omega)
    rw [decide_eq_true rfl, HML1.out] at hsm
    have HSM := Lib.hid hsm
    clear hr hb hsm HX8 HQ8
    go_wp2_with fail
    refine HSM.out.mono ?_
    rintro e w8 ⟨rfl, hb⟩
    have HX8 := Lib.hid (below_trans HX8b.out hb)
    have HQ8 := Lib.hid (below_trans HQ8b.out hb)
    clear hb HSM HX8b HQ8b
    go_wp2_with fail
    refine (welement_any _ _).mono ?_
    rintro e _ ⟨rfl, rfl⟩
    rw [HOE.out]
    go_wp2_with fail
    refine (HOT.out Al cl w8 (HPR7.out _ HQ8.out)).mono ?_
    rintro e w9 ⟨C, A1, c1, A2, c2, rfl, hC1, hC0, hCP, hP1, hI2, hb⟩
    have HC1 := Lib.hid hC1
    have HC0 := Lib.hid hC0
    have HCP := Lib.hid hCP
    have HX9 := Lib.hid (below_trans HX8.out hb)
    have HQ9 := Lib.hid (below_trans HQ8.out hb)
    have HP9 : Hid (∀ W, Below w9.heap.size w9 W → Prs W A1 (shs C k) ∧ Ints W A2 (placesL first k (nn - 1))) := Lib.hid (fun W hW => ⟨hP1.below hW, hI2.below hW⟩)
    clear hC1 hC0 hCP hP1 hI2 hb
    go_wp2_with fail
    go_loopw [41] (fun u41 wr => ∃ j : Nat, j ≤ nn - 1 ∧ u41 = .int .i64 j ∧ Below w9.heap.size w9 wr) (fun u41 _ => nn - (intOf u41).toNat)
    case atStart => exact ⟨0, Nat.zero_le _, rfl, Below.refl _ _⟩
    case round =>
    obtain ⟨j, hj, rfl, hb⟩ := hrel
    have HW := Lib.hid hb
    clear hb
    by_cases hjl : j < nn - 1
    case pos =>
      obtain ⟨kk, hkk⟩ : ∃ kk : Nat, kk = (first + j) % k := ⟨_, rfl⟩
      have hkk1 : kk < k := by rw [hkk]; exact Nat.mod_lt _ (by omega)
      have hpl : (placesL first k (nn - 1))[j]? = some (kk : Int) := by simp [placesL, hjl, hkk]
      obtain ⟨b8, o8, rfl, hc8⟩ := (HP9.out wr HW.out).2.at_ hpl
      obtain ⟨b10, o10, rfl, hx1, hx2⟩ := (HP9.out wr HW.out).1.at_ (wo_shs_get C k kk hkk1)
      obtain ⟨b4, o4, rfl, hz1', hz2'⟩ := (HPR7.out wr (below_trans HQ9.out HW.out)).at_ (wo_shs_get P k kk hkk1)
      have hcp := HCP.out j hjl
      rw [← hkk] at hcp
      simp only at hx1 hx2 hz1' hz2'
      rw [hcp] at hx2
      generalize evp P ((kk : Int) + 1) = y at *
      have hkk2 : (kk : Int) < (k : Int) := by omega
      have hjl' : (j : Int) < ((nn - 1 : Nat) : Int) := by omega
      clear hkk hpl hcp
      have hyy : (y == y) = true := by simp
      go_wp2
      go_quiet (fail)
      go_wp2
      go_roundw
      case rel => exact ⟨j + 1, by omega, by go_num, below_drewN HW.out _⟩
      case measure => simp [intOf]; omega
    case neg =>
    have HP10 := Lib.hid (HP9.out wr HW.out).1
    have HX10 := Lib.hid (below_trans HX9.out HW.out)
    have HQ10 := Lib.hid (below_trans HQ9.out HW.out)
    clear HP9 HX9 HQ9 HW
    obtain ⟨w10, rfl⟩ : ∃ w10 : World, w10 = wr := ⟨_, rfl⟩
    go_wp2_with fail
    refine (HOP2.out A1 c1 C w10 HP10.out HC1.out HC0.out (below_trans HB3.out HX10.out)).mono ?_
    rintro e w11 ⟨rfl, hb⟩
    have HX11 := Lib.hid (below_trans HX10.out hb)
    have HQ11 := Lib.hid (below_trans HQ10.out hb)
    clear hb
    go_wp2_with fail
    refine (HBO.out w11 HX11.out).mono ?_
    rintro e w12 ⟨Am, cm, rfl, hr, hb⟩
    have HX12 := Lib.hid (below_trans HX11.out hb)
    have HQ12 := Lib.hid (below_trans HQ11.out hb)
    have HM12 : Hid (∀ W, Below w12.heap.size w12 W → Ints W Am ms) := Lib.hid (fun W hW => hr.below hW)
    clear hr hb
    have hoo : (O != O) = false := by simp
    go_wp2_with fail
    refine (welement_any _ _).mono ?_
    rintro e _ ⟨rfl, rfl⟩
    rw [HOE.out]
    go_wp2_with fail
    refine (HUO.out Ax cx w12 HX12.out (HXY7.out _ HQ12.out).1).mono ?_
    rintro e w13 ⟨Az, cz, rfl, hr, hb⟩
    have HX13 := Lib.hid (below_trans HX12.out hb)
    have HQ13 := Lib.hid (below_trans HQ12.out hb)
    have HMZ : Hid (∀ W, Below w13.heap.size w13 W → Ints W Am ms ∧ Ints W Az zs ∧ Ints W Ax xs ∧ Ints W A20 ma) := Lib.hid (fun W hW => ⟨HM12.out W (below_trans hb hW), hr.below hW, (HXY7.out W (below_trans HQ13.out hW)).1, (HAB.out W (below_trans HX13.out hW)).1⟩)
    clear hr hb HM12
    go_wp2_with fail
    go_loopw [46] (fun u46 wr => ∃ j : Nat, j ≤ raw.length ∧ u46 = .int .i64 j ∧ Below w13.heap.size w13 wr) (fun u46 _ => raw.length - (intOf u46).toNat)
    case atStart => exact ⟨0, Nat.zero_le _, rfl, Below.refl _ _⟩
    case round =>
    obtain ⟨j, hj, rfl, hb⟩ := hrel
    have HW := Lib.hid hb
    clear hb
    by_cases hjl : j < raw.length
    case neg =>
      go_wp2
      go_ret
      exact ⟨rfl, below_trans HB3.out (below_trans HX13.out HW.out)⟩
    case pos =>
    obtain ⟨x, hx⟩ := get_some ma j (by have := HML1.out; omega)
    have hxr := HMR1.out j x hx
    have hd := HF1.out j
    have hd2 := HF2.out j
    obtain ⟨hM, hZ, hX, hA⟩ := HMZ.out wr HW.out
    obtain ⟨bm, om, rfl, q1⟩ := hM.at_ (HG3.out j x hx)
    obtain ⟨bz, oz, rfl, q2⟩ := hZ.at_ (HG4.out j x hx)
    obtain ⟨bx, ox, rfl, q3⟩ := hX.at_ (HG1.out j x hx)
    obtain ⟨ba, oa, rfl, q4⟩ := hA.at_ hx
    obtain ⟨X, hXE⟩ : ∃ X, x + (of1 j : Int) = X := ⟨_, rfl⟩
    obtain ⟨M, hME⟩ : ∃ M, x + (of2 j : Int) = M := ⟨_, rfl⟩
    obtain ⟨Z, hZE⟩ : ∃ Z, X - (of2 j : Int) = Z := ⟨_, rfl⟩
    obtain ⟨D, hDE⟩ : ∃ D, (of2 j : Int) = D := ⟨_, rfl⟩
    rw [hXE, hZE] at q2
    rw [hXE] at q3
    rw [hME] at q1
    have HC : Hid (∀ W, Below wr.heap.size wr W → W.cell? ⟨bz, oz + j, none⟩ = some (.int .i64 Z) ∧ W.cell? ⟨bx, ox + j, none⟩ = some (.int .i64 X)) := Lib.hid (fun W hW => ⟨kept_cell hW q2, kept_cell hW q3⟩)
    have HD : Hid (∀ W, Below wr.heap.size wr W → W.cell? ⟨bm, om + j, none⟩ = some (.int .i64 M) ∧ W.cell? ⟨ba, oa + j, none⟩ = some (.int .i64 x)) := Lib.hid (fun W hW => ⟨kept_cell hW q1, kept_cell hW q4⟩)
    have wr2 : IntKind.i64.wrap (M - x) = D := by rw [IntWalk.i64_in _ (by omega)]; omega
    have wr3 : IntKind.i64.wrap (X - D) = Z := by rw [IntWalk.i64_in _ (by omega)]; omega
    have hji : (j : Int) < (raw.length : Int) := by omega
    have hzz : (Z != Z) = false := by simp
    clear hx q1 q2 q3 q4 hXE hME hZE hDE hxr hd hd2 hM hZ hX hA
    go_wp2_with fail
    refine wp_region_belowC (by kernel_rfl) (by kernel_rfl) (fun WQ HQS HQN => ?_)
    refine HQS.go (fun K hK => ?_)
    go_simp
    apply Exists.intro
    refine ⟨fun W hW => ?_, hK _ ?_⟩
    · (try go_simp)
      exact rfl
    clear hK K
    refine HQS.go (fun K hK => ?_)
    go_simp
    apply Exists.intro
    refine ⟨fun W hW => ?_, hK _ ?_⟩
    · (try go_simp)
      exact rfl
    clear hK K
    refine HQS.go (fun K hK => ?_)
    go_simp
    apply Exists.intro
    refine ⟨fun W hW => ?_, hK _ ?_⟩
    · (try go_simp)
      exact rfl
    clear hK K
    refine HQS.go (fun K hK => ?_)
    go_simp
    apply Exists.intro
    refine ⟨fun W hW => ?_, hK _ ?_⟩
    · have q := (HC.out W hW).1
      have ql := lt_of_cell q
      go_simp
      exact rfl
    clear hK K
    refine HQS.go (fun K hK => ?_)
    go_simp
    apply Exists.intro
    refine ⟨fun W hW => ?_, hK _ ?_⟩
    · (try go_simp)
      exact rfl
    clear hK K
    refine HQS.go (fun K hK => ?_)
    go_simp
    apply Exists.intro
    refine ⟨fun W hW => ?_, hK _ ?_⟩
    · (try go_simp)
      exact rfl
    clear hK K
    refine HQS.go (fun K hK => ?_)
    go_simp
    apply Exists.intro
    refine ⟨fun W hW => ?_, hK _ ?_⟩
    · (try go_simp)
      exact rfl
    clear hK K
    refine HQS.go (fun K hK => ?_)
    go_simp
    apply Exists.intro
    refine ⟨fun W hW => ?_, hK _ ?_⟩
    · have q := (HC.out W hW).2
      have ql := lt_of_cell q
      go_simp
      exact rfl
    clear hK K
    refine HQS.go (fun K hK => ?_)
    go_simp
    apply Exists.intro
    refine ⟨fun W hW => ?_, hK _ ?_⟩
    · (try go_simp)
      exact rfl
    clear hK K
    refine HQS.go (fun K hK => ?_)
    go_simp
    apply Exists.intro
    refine ⟨fun W hW => ?_, hK _ ?_⟩
    · (try go_simp)
      exact rfl
    clear hK K
    refine HQS.go (fun K hK => ?_)
    go_simp
    apply Exists.intro
    refine ⟨fun W hW => ?_, hK _ ?_⟩
    · (try go_simp)
      exact rfl
    clear hK K
    refine HQS.go (fun K hK => ?_)
    go_simp
    apply Exists.intro
    refine ⟨fun W hW => ?_, hK _ ?_⟩
    · have q := (HD.out W hW).1
      have ql := lt_of_cell q
      go_simp
      exact rfl
    clear hK K
    refine HQS.go (fun K hK => ?_)
    go_simp
    apply Exists.intro
    refine ⟨fun W hW => ?_, hK _ ?_⟩
    · (try go_simp)
      exact rfl
    clear hK K
    refine HQS.go (fun K hK => ?_)
    go_simp
    apply Exists.intro
    refine ⟨fun W hW => ?_, hK _ ?_⟩
    · (try go_simp)
      exact rfl
    clear hK K
    refine HQS.go (fun K hK => ?_)
    go_simp
    apply Exists.intro
    refine ⟨fun W hW => ?_, hK _ ?_⟩
    · (try go_simp)
      exact rfl
    clear hK K
    refine HQS.go (fun K hK => ?_)
    go_simp
    apply Exists.intro
    refine ⟨fun W hW => ?_, hK _ ?_⟩
    · have q := (HD.out W hW).2
      have ql := lt_of_cell q
      go_simp
      exact rfl
    clear hK K
    refine HQS.go (fun K hK => ?_)
    go_simp
    apply Exists.intro
    refine ⟨fun W hW => ?_, hK _ ?_⟩
    · (try go_simp)
      exact rfl
    clear hK K
    refine HQS.go (fun K hK => ?_)
    go_simp
    apply Exists.intro
    refine ⟨fun W hW => ?_, hK _ ?_⟩
    · (try go_simp)
      exact rfl
    clear hK K
    refine HQS.go (fun K hK => ?_)
    go_simp
    apply Exists.intro
    refine ⟨fun W hW => ?_, hK _ ?_⟩
    · (try go_simp)
      exact rfl
    clear hK K
    refine HQN.go ?_
    intro w14 hW
    have H8 := Lib.hid (below_trans HW.out hW)
    clear hW
    go_wp2
    go_roundw
    case rel => exact ⟨j + 1, by omega, by go_num, H8.out⟩
    case measure => simp [intOf]; omega
end

section
open Go.RowKit

set_option maxRecDepth 100000 in
set_option maxHeartbeats 64000000 in
theorem topb_up (A : Option Addr) (c : Nat) (raw : List Int) (B : Option Addr) (d : Nat) (second : List Int) (secret other : Int) (E : Option Addr) (f : Nat) (list : List Int) (a b bts first : Nat) (w : World) (hT : Tabs w) (hA : Ints w A raw) (hB : Ints w B second) (hE : Ints w E list) (h1 : raw.length ≤ 9223372036854775807) (h2 : second.length ≤ 9223372036854775807) (h3 : list.length ≤ 9223372036854775807) (ha : a < 256) (hb : b < 256) (hbts : bts < 256) (hfirst : first < 256) (hlong : 12 < raw.length ∨ 12 < second.length) :
    Calls Tryz.prog 3 #[.slice A raw.length c, .slice B second.length d, .int .i64 secret, .int .i64 other, .slice E list.length f, .int .u8 a, .int .u8 b, .int .u8 bts, .int .u8 first] w fun e w' => e = .returned (.bool true) ∧ Below w.heap.size w w' := by
  have HH := Lib.hid (whidden_any w hT)
  clear hT hA hB hE
  by_cases hz_a : 12 < raw.length
  case pos =>
    clear hlong
    have hd1_a : decide (12 < raw.length) = true := decide_eq_true hz_a
    have hi1_a : (12 : Int) < (raw.length : Int) := by omega
    have hd2_a : decide ((12 : Int) < (raw.length : Int)) = true := decide_eq_true hi1_a
    go_enter Tryz.func3, Tryz.ntmps3
    go_wp2_with fail
    refine (HH.out).mono ?_
    rintro e w1 ⟨rfl, hb⟩
    have HB1 := Lib.hid hb
    clear hb
    go_wp2
    go_ret
    exact ⟨rfl, HB1.out⟩
  case neg =>
  have hz_b : 12 < second.length := by omega
  clear hlong
  have hd1_a : decide (12 < raw.length) = false := decide_eq_false hz_a
  have hi1_a : ¬ (12 : Int) < (raw.length : Int) := by omega
  have hd2_a : decide ((12 : Int) < (raw.length : Int)) = false := decide_eq_false hi1_a
  have hd1_b : decide (12 < second.length) = true := decide_eq_true hz_b
  have hi1_b : (12 : Int) < (second.length : Int) := by omega
  have hd2_b : decide ((12 : Int) < (second.length : Int)) = true := decide_eq_true hi1_b
  go_enter Tryz.func3, Tryz.ntmps3
  go_wp2_with fail
  refine (HH.out).mono ?_
  rintro e w1 ⟨rfl, hb⟩
  have HB1 := Lib.hid hb
  clear hb
  go_wp2
  go_ret
  exact ⟨rfl, HB1.out⟩
theorem topb_walk (A : Option Addr) (c : Nat) (raw : List Int) (B : Option Addr) (d : Nat) (second : List Int) (secret other : Int) (E : Option Addr) (f : Nat) (list : List Int) (a b bts first : Nat) (w : World) (hT : Tabs w) (hA : Ints w A raw) (hB : Ints w B second) (hE : Ints w E list) (h1 : raw.length ≤ 9223372036854775807) (h2 : second.length ≤ 9223372036854775807) (h3 : list.length ≤ 9223372036854775807) (ha : a < 256) (hb : b < 256) (hbts : bts < 256) (hfirst : first < 256) :
    Calls Tryz.prog 3 #[.slice A raw.length c, .slice B second.length d, .int .i64 secret, .int .i64 other, .slice E list.length f, .int .u8 a, .int .u8 b, .int .u8 bts, .int .u8 first] w fun e w' => e = .returned (.bool true) ∧ Below w.heap.size w w' := by
  by_cases hlong : 12 < raw.length ∨ 12 < second.length
  · exact topb_up A c raw B d second secret other E f list a b bts first w hT hA hB hE h1 h2 h3 ha hb hbts hfirst hlong
  · by_cases hkc : kcn bts (1 + a % 4 + b % 3) < 1 + a % 4
    · exact topb_few A c raw B d second secret other E f list a b bts first w hT hA hB hE h1 h2 h3 ha hb hbts hfirst (by omega) (by omega) hkc
    · exact topb_all A c raw B d second secret other E f list a b bts first w hT hA hB hE h1 h2 h3 ha hb hbts hfirst (by omega) (by omega) hkc
end

section
open Go.RowKit Go.ChangeShapes Go.WideShapes Go.Deep

def ShC (cs : List Value) (s : Int × Int) : Prop := cs = [.int .i64 s.1, .int .i64 s.2] ∧ (-9223372036854775808 ≤ s.1 ∧ s.1 ≤ 9223372036854775807) ∧ (-9223372036854775808 ≤ s.2 ∧ s.2 ≤ 9223372036854775807)

theorem opn_share (w : World) : Opn Tryz.prog w 37 ShC := by
  intro H enc n cs x h
  obtain ⟨V, rfl, hf⟩ := Opn.fields1 Tryz.underlying37 (by kernel_rfl) (by kernel_rfl) h
  obtain ⟨a0, h0, w0⟩ := hf 0 _ rfl (Opn.int Tryz.underlying3)
  obtain ⟨a1, h1, w1⟩ := hf 1 _ rfl (Opn.int Tryz.underlying3)
  refine ⟨(a0, a1), ?_, wf_i64_ w0, wf_i64_ w1⟩
  simp only [List.cons.injEq, and_true] at h0 h1
  simp [List.range_succ, h0, h1]

theorem ShC.val {v : Value} {s : Int × Int} (hv : v = .agg v.cells) (h : ShC v.cells.toList s) : v = .agg #[.int .i64 s.1, .int .i64 s.2] := by
  rw [hv]
  congr 1
  exact Array.toList_inj.1 h.1

theorem ints_in {w : World} {A : Option Addr} {c : Nat} {l : List Int} (h : SlC w 1 (IntC .i64) [.slice A l.length c] l) : Ints w A l ∧ l.length ≤ 9223372036854775807 := by
  obtain ⟨A', c', he, h1, h2, h3⟩ := h
  obtain ⟨rfl, rfl⟩ : A = A' ∧ c = c' := by simpa using he
  refine ⟨⟨by simp, fun hn => ?_⟩, by unfold maxLen at h2; omega⟩
  obtain ⟨b, off, rfl, _, hc⟩ := h3 hn
  refine ⟨b, off, rfl, fun j u hu => ?_⟩
  rw [List.getElem?_map] at hu
  cases hx : l[j]? with
  | none => rw [hx] at hu; cases hu
  | some x =>
    rw [hx] at hu
    obtain ⟨cs', _, hcs, hr, _⟩ := hc j x hx
    have := hcs 0 (.int .i64 x) (by rw [hr]; rfl)
    simp only [Nat.mul_one, Nat.add_zero] at this
    rw [this]; exact hu

theorem flat2_get (l : List (Int × Int)) (j : Nat) (u : Value) (h : (flat2 l)[j]? = some u) : ∃ (k r : Nat) (p : Int × Int), l[k]? = some p ∧ j = k * 2 + r ∧ [Value.int .i64 p.1, .int .i64 p.2][r]? = some u := by
  induction l generalizing j with
  | nil => simp [flat2] at h
  | cons p l ih =>
    have e : flat2 (p :: l) = .int .i64 p.1 :: .int .i64 p.2 :: flat2 l := rfl
    rw [e] at h
    match j, h with
    | 0, h => exact ⟨0, 0, p, rfl, rfl, h⟩
    | 1, h => exact ⟨0, 1, p, rfl, rfl, h⟩
    | j + 2, h =>
      obtain ⟨k, r, q, h1, h2, h3⟩ := ih j (by simpa using h)
      exact ⟨k + 1, r, q, by simpa using h1, by omega, h3⟩

theorem prs_in {w : World} {A : Option Addr} {c : Nat} {l : List (Int × Int)} (h : SlC w 2 ShC [.slice A l.length c] l) : Prs w A l ∧ l.length ≤ 9223372036854775807 := by
  obtain ⟨A', c', he, h1, h2, h3⟩ := h
  obtain ⟨rfl, rfl⟩ : A = A' ∧ c = c' := by simpa using he
  refine ⟨⟨flat2_length l, fun hn => ?_⟩, by unfold maxLen at h2; omega⟩
  obtain ⟨b, off, rfl, _, hc⟩ := h3 hn
  refine ⟨b, off, rfl, fun j u hu => ?_⟩
  obtain ⟨k, r, p, h4, rfl, h5⟩ := flat2_get l j u hu
  obtain ⟨cs', _, hcs, hr, _⟩ := hc k p h4
  have := hcs r u (by rw [hr]; exact h5)
  rw [← Nat.add_assoc]
  exact this
end

section
open Go.RowKit

theorem strs_in {w : World} {A : Option Addr} {c : Nat} {l : List ByteArray} (h : SlC w 1 StrC [.slice A l.length c] l) : Strs w A l ∧ l.length ≤ 9223372036854775807 := by
  obtain ⟨A', c', he, h1, h2, h3⟩ := h
  obtain ⟨rfl, rfl⟩ : A = A' ∧ c = c' := by simpa using he
  refine ⟨⟨by simp, fun hn => ?_⟩, by unfold maxLen at h2; omega⟩
  obtain ⟨b, off, rfl, _, hc⟩ := h3 hn
  refine ⟨b, off, rfl, fun j u hu => ?_⟩
  rw [List.getElem?_map] at hu
  cases hx : l[j]? with
  | none => rw [hx] at hu; cases hu
  | some x =>
    rw [hx] at hu
    have hu' : Value.string x = u := by simpa using hu
    obtain ⟨cs', hl, hcs, hr⟩ := hc j x hx
    have := hcs 0 (.string x) (by rw [hr.1]; rfl)
    rw [← hu']
    simpa using this
end

end Go.Proofs.YtdlgejofggbifaaGreatDoor
