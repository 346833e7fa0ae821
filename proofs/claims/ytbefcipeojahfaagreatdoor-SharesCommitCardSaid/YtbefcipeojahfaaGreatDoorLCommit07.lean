/- The law SharesCommit: the walk. -/
import Derived.Test.YtbefcipeojahfaaGreatDoorShRt07
import Derived.Test.YtbefcipeojahfaaGreatDoorRecover
import Derived.Test.YtbefcipeojahfaaGreatDoorTreeTx02
import Derived.Test.YtbefcipeojahfaaGreatDoorTreeSh02
namespace Go.Proofs.YtbefcipeojahfaaGreatDoor
open Go.RowKit

theorem rjoin2 (a : ByteArray) (ha : a.size ≤ 200) (W : World) :
    Calls Tryz.prog 20 #[.slice (some ⟨W.heap.size, 0, none⟩) 2 2] (W.alloc (.cells #[.string ⟨#[108, 101, 97, 102]⟩, .string a] 9)) fun e w' => e = .returned (.string (jb [bLeaf, a])) ∧ Below W.heap.size W w' := by
  have := rjoined (some ⟨W.heap.size, 0, none⟩) 2 [bLeaf, a] (W.alloc (.cells #[.string ⟨#[108, 101, 97, 102]⟩, .string a] 9)) (Strs_new _ _ _ _ _ rfl rfl) (by simp) (by
    intro s hs
    simp only [List.mem_cons, List.not_mem_nil, or_false] at hs
    rcases hs with rfl | rfl
    · decide
    · exact ha)
  exact this.mono fun _ _ ⟨he, hb⟩ => ⟨he, below_trans (below_alloc (Below.refl _ _) _) hb⟩

theorem shs_place (p : List Int) (m j : Nat) (t : Int × Int) (h : (shs p m)[j]? = some t) : t.1 = (j : Int) + 1 := by
  unfold shs at h
  rw [List.getElem?_map] at h
  cases hr : (List.range m)[j]? with
  | none => rw [hr] at h; cases h
  | some i =>
    rw [hr] at h
    obtain ⟨hl, e⟩ := List.getElem?_eq_some_iff.1 hr
    rw [List.getElem_range] at e
    subst e
    have := Option.some.inj h
    rw [← this]

theorem shChk_own (L : List (Int × Int)) (k : Nat) (t : Int × Int) (hL : L.length ≤ 16) (h1 : 1 ≤ L.length) (ht : L[k]? = some t) (hp : t.1 = (k : Int) + 1) (hv : validB t = true) :
    shChk (rt (L.map shLf)) (L.length : Int) t (pt (L.map shLf) k) = true := by
  have hk := (List.getElem?_eq_some_iff.1 ht).1
  unfold shChk
  rw [decide_eq_true (⟨by omega, by omega, by omega⟩ : 1 ≤ (L.length : Int) ∧ (L.length : Int) ≤ 16 ∧ t.1 ≤ (L.length : Int)), hv, Bool.true_and, Bool.true_and, show t.1 - 1 = (k : Int) from by omega]
  have := incl_yes (L.map shLf) k (shLf t) (shLf_D L) (by rw [List.getElem?_map, ht]; rfl) (by rw [List.length_map]; omega)
  rw [List.length_map] at this
  exact this

theorem shChk_parts {L : List (Int × Int)} {root : ByteArray} {s : Int × Int} {p : List ByteArray} (h : shChk root (L.length : Int) s p = true) :
    validB s = true ∧ ∃ (j : Nat) (t : Int × Int), s.1 = (j : Int) + 1 ∧ L[j]? = some t ∧ allD p = true ∧ upv L.length j (shLf s) p = root ∧ p.length = plen L.length j := by
  unfold shChk at h
  simp only [Bool.and_eq_true, decide_eq_true_eq] at h
  obtain ⟨⟨⟨h1, h2, h3⟩, h4⟩, h5⟩ := h
  obtain ⟨g1, g2⟩ := valid_nat h4
  obtain ⟨t, ht⟩ := get_some L (s.1 - 1).toNat (by omega)
  refine ⟨h4, (s.1 - 1).toNat, t, by omega, ht, ?_⟩
  rw [show s.1 - 1 = (((s.1 - 1).toNat : Nat) : Int) from by omega] at h5
  exact chk_parts h5

set_option maxRecDepth 100000 in
set_option maxHeartbeats 64000000 in
theorem commit_walk (secret : Int) (A : Option Addr) (c : Nat) (raw : List Int) (a b q : Nat) (s : Int × Int) (w : World) (hT : Tabs w) (hA : Ints w A raw) (hraw : raw.length ≤ 9223372036854775807) (ha : a < 256) (hb : b < 256) (hq : q < 256)
    (hs1 : -9223372036854775808 ≤ s.1 ∧ s.1 ≤ 9223372036854775807) (hs2 : -9223372036854775808 ≤ s.2 ∧ s.2 ≤ 9223372036854775807) :
    Calls Tryz.prog 4 #[.int .i64 secret, .slice A raw.length c, .int .u8 a, .int .u8 b, .int .u8 q, .agg #[.int .i64 s.1, .int .i64 s.2]] w fun e w' => e = .returned (.bool true) ∧ Below w.heap.size w w' := by
  obtain ⟨w0, hw0⟩ : ∃ w0, w.alloc (.cells #[.int .i64 s.1, .int .i64 s.2] 25) = w0 := ⟨_, rfl⟩
  have HB0 : Hid (Below w.heap.size w w0) := Lib.hid (by rw [← hw0]; exact below_alloc (Below.refl _ _) _)
  have HK : Hid (∀ W, Below w0.heap.size w0 W → W.cell? ⟨w.heap.size, 0, none⟩ = some (.int .i64 s.1) ∧ W.cell? ⟨w.heap.size, 1, none⟩ = some (.int .i64 s.2)) := Lib.hid (fun W hW => by
    have hb : Blk w0 w.heap.size 25 #[.int .i64 s.1, .int .i64 s.2] := by rw [← hw0]; exact Blk.new w _ _ _ rfl
    exact ⟨kept_cell hW (hb.of_cell rfl), kept_cell hW (hb.of_cell rfl)⟩)
  have HT : Hid (∀ W, Below w0.heap.size w0 W → Tabs W) := Lib.hid (fun W hW => (hT.below HB0.out).below hW)
  have HA := Lib.hid (hA.below HB0.out)
  have HW0 := Lib.hid hw0
  clear hw0 hA hT
  go_enter Tryz.func4, Tryz.ntmps4
  go_wp2_with fail
  have hw0 := HW0.out
  rw [hw0]
  clear hw0
  refine (head_any _).mono ?_
  rintro e w1 ⟨rfl, hb1⟩
  have HB1 := Lib.hid hb1; clear hb1
  go_wp2_with fail
  refine (made_any A c raw a b _ (HA.out.below HB1.out) hraw ha hb).mono ?_
  rintro e w2 ⟨v2, rfl, hown2, hb2⟩
  have HB2 := Lib.hid (below_trans HB1.out hb2); clear hb2
  obtain ⟨A2, c2, hv2, -, -, hrd2⟩ := Rd.of_own hown2
  obtain ⟨n, hn⟩ : ∃ n, n = 1 + a % 6 := ⟨_, rfl⟩
  obtain ⟨m, hm⟩ : ∃ m, m = 1 + a % 6 + b % (9 - (1 + a % 6)) := ⟨_, rfl⟩
  have hml : (madeL raw (a % 6)).length = a % 6 := madeL_length _ _
  have hml2 : b % (9 - (1 + a % 6)) < 9 - (1 + a % 6) := Nat.mod_lt _ (by omega)
  have hme := madeL_elem raw (a % 6) (by omega)
  rw [← hm, ← hn]
  have hn1 : 1 ≤ n := by omega
  have hnm : n ≤ m := by omega
  have hm8 : m ≤ 8 := by omega
  have hln : (madeL raw (a % 6)).length + 1 ≤ n ∧ n ≤ (madeL raw (a % 6)).length + 1 := by omega
  have hI2 : Ints w2 A2 (madeL raw (a % 6)) := by unfold Ints; rw [hml]; exact hrd2
  rw [← hml] at hv2
  subst hv2
  generalize madeL raw (a % 6) = rnd at *
  have HI2 := Lib.hid hI2
  have HME := Lib.hid hme
  clear hown2 hrd2 hn hm hml hml2 hI2 hme HA
  obtain ⟨hl1, hl2⟩ := hln
  go_wp2_with fail
  refine (lelement_any _ _).mono ?_
  rintro e w' ⟨rfl, rfl⟩
  have HSE := Lib.hid (elemB_mod secret)
  have h0 : 0 ≤ secret % 2147483647 := by omega
  have h0' : secret % 2147483647 < 2147483647 := by omega
  go_wp2_with fail
  refine (split_any (secret % 2147483647) n m A2 c2 rnd _ HI2.out hn1 hnm (by omega) hl1 hl2 (by rw [List.all_cons, HSE.out, HME.out]; rfl)).mono ?_
  rintro e w3 ⟨v3, rfl, hown3, hb3⟩
  have HB3 := Lib.hid (below_trans HB2.out hb3); clear hb3
  obtain ⟨A3, c3, rfl, hc3, -, hrd3⟩ := Rd.of_own hown3
  have hON := (shs_on ((secret % 2147483647) :: rnd) m (by omega)).valid
  have hpl := shs_place ((secret % 2147483647) :: rnd) m
  have hSL : (shs ((secret % 2147483647) :: rnd) m).length = m := shs_length _ _
  generalize shs ((secret % 2147483647) :: rnd) m = L at *
  have HP3 : Hid (Prs w3 A3 L) := Lib.hid (by unfold Prs; rw [hSL]; exact hrd3)
  clear hown3 hrd3 HI2 HME HSE h0 h0' hl1 hl2 hraw
  have HLV : Hid (∀ (j : Nat) (t : Int × Int), L[j]? = some t → validB t = true ∧ t.1 = (j : Int) + 1) := Lib.hid (fun j t h => ⟨List.all_eq_true.1 hON t (List.mem_of_getElem? h), hpl j t h⟩)
  have hroot := sroot_any A3 c3 L w3 HP3.out (by omega) (by omega) hON (HT.out w3 HB3.out)
  rw [hSL] at hroot
  have HROOT := Lib.hid hroot
  have hleav : ∀ W, Below w3.heap.size w3 W → Calls Tryz.prog 18 #[.slice A3 m c3] W fun e w' => ∃ v, e = .returned v ∧ w'.ownsRow W.heap.size 9 1 v m ((L.map shLf).map Value.string) ∧ Below W.heap.size W w' := fun W hW => by
    have := rleaves_any A3 c3 L W (HP3.out.below hW) (by omega) hON
    rw [hSL] at this
    exact this
  have HLEAV := Lib.hid hleav
  have HSL := Lib.hid hSL
  have hmm : ((m : Int) == (m : Int)) = true := by simp
  have hmm2 : ((m : Int) != (m : Int)) = false := by simp
  have HON := Lib.hid hON
  clear hroot hleav hpl hSL hON
  obtain ⟨k, hk⟩ : ∃ k, q % m = k := ⟨_, rfl⟩
  have hkm : k < m := by have := Nat.mod_lt q (show 0 < m by omega); omega
  have hrem : (q : Int) % (m : Int) = (k : Int) := by rw [← hk]; rfl
  have HREM := Lib.hid hrem
  have hm0 : ((m : Int) == 0) = false := by simp; omega
  clear hk hrem
  obtain ⟨t, ht⟩ := get_some L k (by rw [HSL.out]; exact hkm)
  have hown := shChk_own L k t (by rw [HSL.out]; omega) (by rw [HSL.out]; omega) ht (HLV.out k t ht).2 (HLV.out k t ht).1
  rw [HSL.out] at hown
  obtain ⟨bl, ol, rfl, d1, d2⟩ := HP3.out.at_ ht
  have HCELL : Hid (∀ (j : Nat) (t : Int × Int), L[j]? = some t → ∀ W, Below w3.heap.size w3 W → W.cell? ⟨bl, ol + j * 2, none⟩ = some (.int .i64 t.1) ∧ W.cell? ⟨bl, ol + j * 2 + 1, none⟩ = some (.int .i64 t.2)) := Lib.hid (fun j t hj W hW => by
    obtain ⟨b', off', e, h1, h2⟩ := (HP3.out.below hW).at_ hj
    cases e
    exact ⟨h1, h2⟩)
  have HT0 := Lib.hid ht
  have hki : (k : Int) < (m : Int) := by omega
  obtain ⟨LV, hLV⟩ : ∃ LV, L.map shLf = LV := ⟨_, rfl⟩
  have hLD := shLf_D L
  have hLS := shLf_sm L
  have hLL : LV.length = m := by rw [← hLV, List.length_map, HSL.out]
  rw [hLV] at HROOT HLEAV hown hLD hLS
  obtain ⟨PT, hPT⟩ : ∃ PT, pt LV k = PT := ⟨_, rfl⟩
  rw [hPT] at hown
  have hPS : sm PT := by rw [← hPT]; exact fun x hx => pt_below LV k hLS x hx
  have hPL : PT.length ≤ 8 := by rw [← hPT, pt_len, hLL]; have := plen_lt_n m k (by omega); omega
  have HPATH : Hid (∀ (W : World) (A' : Option Addr) (c' : Nat), Below w3.heap.size w3 W → m ≤ c' → Strs W A' LV → Calls Tryz.prog 19 #[.slice A' m c', .int .i64 (k : Int)] W fun e w' => ∃ A6 c6, e = .returned (.tuple #[.slice A6 PT.length c6, .int .i64 0]) ∧ PT.length ≤ c6 ∧ Strs w' A6 PT ∧ Below W.heap.size W w') := Lib.hid (fun W A' c' hW hc' hs' => by
    have := tpath_any A' c' LV (k : Int) W (by omega) (by omega) hs' hLS (HT.out W (below_trans HB3.out hW)) hLD (by omega) (by omega)
    rw [hLL, Int.toNat_natCast, hPT] at this
    exact this.mono fun _ _ ⟨A6, c6, he, h1, h2, _, hb⟩ => ⟨A6, c6, he, h1, h2, hb⟩)
  have HCHK : Hid (∀ (W : World) (A' : Option Addr) (c' : Nat) (u : Int × Int) (v : Bool), shChk (rt LV) (m : Int) u PT = v → Below w3.heap.size w3 W → PT.length ≤ c' → Strs W A' PT → Calls Tryz.prog 14 #[.string (rt LV), .int .i64 (m : Int), .agg #[.int .i64 u.1, .int .i64 u.2], .slice A' PT.length c'] W fun e w' => e = .returned (.bool v) ∧ Below W.heap.size W w') := Lib.hid (fun W A' c' u v hv hW hc' hs' => by
    subst hv
    exact scheck_any (rt LV) (m : Int) u A' c' PT W hs' (by omega) hc' hPS (HT.out W (below_trans HB3.out hW)))
  have HCHR : Hid (∀ (W : World) (A' : Option Addr) (c' : Nat) (u : Int × Int) (v : Bool), shChk (rt LV) (m : Int) u PT = v → Below w3.heap.size w3 W → PT.length ≤ c' → Strs W A' PT → Calls Tryz.prog 15 #[.string (rt LV), .int .i64 (m : Int), .agg #[.int .i64 u.1, .int .i64 u.2], .slice A' PT.length c'] W fun e w' => e = .returned (.bool v) ∧ Below W.heap.size W w') := Lib.hid (fun W A' c' u v hv hW hc' hs' => by
    subst hv
    exact r7check_any (rt LV) (m : Int) u A' c' PT W hs' (by omega) hc' hPS)
  have HXL : Hid (∀ (W : World) (A' : Option Addr) (c' : Nat), m ≤ c' → Strs W A' LV → Calls Tryz.prog 22 #[.slice A' m c'] W fun e w' => ∃ v, e = .returned v ∧ w'.ownsRow W.heap.size 9 1 v (txt LV).length ((txt LV).map Value.string) ∧ Below W.heap.size W w') := Lib.hid (fun W A' c' hc' hs' => by
    have := rtxt_any LV.length A' c' LV W (Nat.le_refl _) (by omega) (by omega) hs' hLS
    rw [hLL] at this
    exact this)
  have HOWN := Lib.hid hown
  have HPS := Lib.hid hPS
  have HLS := Lib.hid hLS
  have HLVE := Lib.hid hLV
  have HLL := Lib.hid hLL
  clear hown hPT hPS hLD hLS hLL hLV d1 d2 ht
  go_wp2_with fail
  refine HROOT.out.mono ?_
  rintro e w4 ⟨rfl, hb4⟩
  have HX4 := Lib.hid hb4
  clear hb4
  go_wp2_with fail
  rw [HREM.out]
  refine (HLEAV.out w4 HX4.out).mono ?_
  rintro e w5 ⟨v5, rfl, ho5, hb5⟩
  have HX5 := Lib.hid (below_trans HX4.out hb5)
  obtain ⟨A5, c5, rfl, hc5, -, hr5⟩ := Rd.of_own ho5
  have HS5 : Hid (Strs w5 A5 LV) := Lib.hid (by unfold Strs; rw [HLL.out]; exact hr5)
  have HC5 := Lib.hid hc5
  clear hb5 ho5 hr5 hc5
  go_wp2_with fail
  refine (HPATH.out w5 A5 c5 HX5.out HC5.out HS5.out).mono ?_
  rintro e w6 ⟨A6, c6, rfl, hc6, hs6, hb6⟩
  have HX6 := Lib.hid (below_trans HX5.out hb6)
  have HS56 := Lib.hid (HS5.out.below hb6)
  have HS6 := Lib.hid hs6
  have HC6 := Lib.hid hc6
  clear hb6 hs6 hc6
  obtain ⟨d1, d2⟩ := HCELL.out k t HT0.out w6 HX6.out
  have dl := lt_of_cell d1
  go_wp2_with fail
  refine (HCHK.out w6 A6 c6 t true HOWN.out HX6.out HC6.out HS6.out).mono ?_
  rintro e w7 ⟨rfl, hb7⟩
  have HX7 := Lib.hid (below_trans HX6.out hb7)
  have HS7 := Lib.hid (HS6.out.below hb7)
  have HS57 := Lib.hid (HS56.out.below hb7)
  clear hb7 d1 d2 dl
  go_wp2_with fail
  have HB37 := Lib.hid (below_trans HB3.out HX7.out)
  have HKX : Hid (∀ W, Below w7.heap.size w7 W → W.cell? ⟨w.heap.size, 0, none⟩ = some (.int .i64 s.1) ∧ W.cell? ⟨w.heap.size, 1, none⟩ = some (.int .i64 s.2)) := Lib.hid (fun W hW => HK.out W (below_trans HB37.out hW))
  obtain ⟨cv, hcv⟩ : ∃ cv, shChk (rt LV) (m : Int) s PT = cv := ⟨_, rfl⟩
  have HCKS : Hid (∀ W, Below w7.heap.size w7 W → Calls Tryz.prog 14 #[.string (rt LV), .int .i64 (m : Int), .agg #[.int .i64 s.1, .int .i64 s.2], .slice A6 PT.length c6] W fun e w' => e = .returned (.bool cv) ∧ Below w7.heap.size w7 w') := Lib.hid (fun W hW => (HCHK.out W A6 c6 s cv hcv (below_trans HX7.out hW) HC6.out (HS7.out.below hW)).mono fun _ _ ⟨he, hb⟩ => ⟨he, below_trans hW hb⟩)
  have HCV := Lib.hid hcv
  clear hcv
  cases cv with
  | false =>
    refine wp_region_belowC (by kernel_rfl) (by kernel_rfl) (fun WQ HQS HQN => ?_)
    refine HQS.go (fun K hK => ?_)
    go_simp
    apply Exists.intro
    refine ⟨fun W hW => ?_, hK _ ?_⟩
    · (try go_simp)
      exact rfl
    clear hK K
    refine HQS.go (fun K hK => ?_)
    go_simp
    apply Exists.intro
    refine ⟨fun W hW => ?_, hK _ ?_⟩
    · (try go_simp)
      exact rfl
    clear hK K
    refine HQS.go (fun K hK => ?_)
    go_simp
    apply Exists.intro
    refine ⟨fun W hW => ?_, hK _ ?_⟩
    · obtain ⟨q1, q2⟩ := HKX.out W hW
      have ql := lt_of_cell q1
      go_simp
      exact rfl
    clear hK K
    refine HQS.go (fun K hK => ?_)
    go_simp
    apply Exists.intro
    refine ⟨fun W hW => ?_, hK _ ?_⟩
    · (try go_simp)
      exact rfl
    clear hK K
    refine HQS.go (fun K hK => ?_)
    go_simp
    apply Exists.intro
    refine ⟨fun W hW => ?_, hK _ ?_⟩
    · exact HCKS.out W hW
    clear hK K
    refine HQS.go (fun K hK => ?_)
    go_simp
    apply Exists.intro
    refine ⟨fun W hW => ?_, hK _ ?_⟩
    · (try go_simp)
      exact rfl
    clear hK K
    refine HQS.go (fun K hK => ?_)
    go_simp
    apply Exists.intro
    refine ⟨fun W hW => ?_, hK _ ?_⟩
    · (try go_simp)
      exact rfl
    clear hK K
    refine HQS.go (fun K hK => ?_)
    go_simp
    refine hK _ ?_
    clear hK K
    refine HQS.go (fun K hK => ?_)
    go_simp
    refine hK _ ?_
    clear hK K
    refine HQS.go (fun K hK => ?_)
    go_simp
    refine hK _ ?_
    clear hK K
    refine HQS.go (fun K hK => ?_)
    go_simp
    refine hK _ ?_
    clear hK K
    refine HQS.go (fun K hK => ?_)
    go_simp
    refine hK _ ?_
    clear hK K
    refine HQS.go (fun K hK => ?_)
    go_simp
    refine hK _ ?_
    clear hK K
    refine HQS.go (fun K hK => ?_)
    go_simp
    refine hK _ ?_
    clear hK K
    refine HQS.go (fun K hK => ?_)
    go_simp
    refine hK _ ?_
    clear hK K
    refine HQS.go (fun K hK => ?_)
    go_simp
    refine hK _ ?_
    clear hK K
    refine HQS.go (fun K hK => ?_)
    go_simp
    refine hK _ ?_
    clear hK K
    refine HQS.go (fun K hK => ?_)
    go_simp
    refine hK _ ?_
    clear hK K
    refine HQS.go (fun K hK => ?_)
    go_simp
    refine hK _ ?_
    clear hK K
    refine HQS.go (fun K hK => ?_)
    go_simp
    refine hK _ ?_
    clear hK K
    refine HQS.go (fun K hK => ?_)
    go_simp
    refine hK _ ?_
    clear hK K
    refine HQS.go (fun K hK => ?_)
    go_simp
    refine hK _ ?_
    clear hK K
    refine HQS.go (fun K hK => ?_)
    go_simp
    refine hK _ ?_
    clear hK K
    refine HQS.go (fun K hK => ?_)
    go_simp
    refine hK _ ?_
    clear hK K
    refine HQS.go (fun K hK => ?_)
    go_simp
    refine hK _ ?_
    clear hK K
    refine HQS.go (fun K hK => ?_)
    go_simp
    refine hK _ ?_
    clear hK K
    refine HQS.go (fun K hK => ?_)
    go_simp
    apply Exists.intro
    refine ⟨fun W hW => ?_, hK _ ?_⟩
    · (try go_simp)
      exact rfl
    clear hK K
    refine HQN.go ?_
    intro w8 hb8
    have HX8 := Lib.hid (below_trans HX7.out hb8)
    have HS8 := Lib.hid (HS7.out.below hb8)
    have HS58 := Lib.hid (HS57.out.below hb8)
    clear hb8
    go_wp2
    go_ret
    exact ⟨rfl, below_trans HB0.out (below_trans HB3.out HX8.out)⟩
  | true =>
  have hpp : validB s = true ∧ ∃ (j : Nat) (t : Int × Int), s.1 = (j : Int) + 1 ∧ L[j]? = some t ∧ allD PT = true ∧ upv m j (shLf s) PT = rt LV ∧ PT.length = plen m j := by
    have := HCV.out
    rw [← HSL.out] at this ⊢
    exact shChk_parts this
  obtain ⟨hvs, j, t2, hs1j, htj, hDp, hup, hlen⟩ := hpp
  have HTJ := Lib.hid htj
  have hjm : j < m := by have := (List.getElem?_eq_some_iff.1 htj).1; rw [HSL.out] at this; exact this
  obtain ⟨hvt, hpt2⟩ := HLV.out j t2 htj
  obtain ⟨g1, g2⟩ := valid_nat hvs
  have HVS := Lib.hid hvs
  have HVT := Lib.hid hvt
  have HPP := Lib.hid (And.intro hDp (And.intro hup hlen))
  have hsub : IntKind.i64.wrap (s.1 - 1) = (j : Int) := by rw [IntWalk.i64_in _ (by omega)]; omega
  have hx1 : 1 ≤ s.1 := by omega
  have hxm : s.1 ≤ (m : Int) := by omega
  have hdx1 : decide (1 ≤ s.1) = true := decide_eq_true hx1
  have hdxm : decide (s.1 ≤ (m : Int)) = true := decide_eq_true hxm
  have hji : (j : Int) < (m : Int) := by omega
  have e1 : (s.1 == t2.1) = true := by simp; omega
  have HS1J := Lib.hid hs1j
  have HPT2 := Lib.hid hpt2
  clear hvs hvt htj hDp hup hlen hs1j hpt2
  by_cases hst : s = t2
  case pos =>
    have e2 : (s.2 == t2.2) = true := by rw [hst]; simp
    clear hst
    refine wp_region_belowC (by kernel_rfl) (by kernel_rfl) (fun WQ HQS HQN => ?_)
    refine HQS.go (fun K hK => ?_)
    go_simp
    apply Exists.intro
    refine ⟨fun W hW => ?_, hK _ ?_⟩
    · (try go_simp)
      exact rfl
    clear hK K
    refine HQS.go (fun K hK => ?_)
    go_simp
    apply Exists.intro
    refine ⟨fun W hW => ?_, hK _ ?_⟩
    · (try go_simp)
      exact rfl
    clear hK K
    refine HQS.go (fun K hK => ?_)
    go_simp
    apply Exists.intro
    refine ⟨fun W hW => ?_, hK _ ?_⟩
    · obtain ⟨q1, q2⟩ := HKX.out W hW
      have ql := lt_of_cell q1
      go_simp
      exact rfl
    clear hK K
    refine HQS.go (fun K hK => ?_)
    go_simp
    apply Exists.intro
    refine ⟨fun W hW => ?_, hK _ ?_⟩
    · (try go_simp)
      exact rfl
    clear hK K
    refine HQS.go (fun K hK => ?_)
    go_simp
    apply Exists.intro
    refine ⟨fun W hW => ?_, hK _ ?_⟩
    · exact HCKS.out W hW
    clear hK K
    refine HQS.go (fun K hK => ?_)
    go_simp
    apply Exists.intro
    refine ⟨fun W hW => ?_, hK _ ?_⟩
    · (try go_simp)
      exact rfl
    clear hK K
    refine HQS.go (fun K hK => ?_)
    go_simp
    apply Exists.intro
    refine ⟨fun W hW => ?_, hK _ ?_⟩
    · (try go_simp)
      exact rfl
    clear hK K
    refine HQS.go (fun K hK => ?_)
    go_simp
    apply Exists.intro
    refine ⟨fun W hW => ?_, hK _ ?_⟩
    · (try go_simp)
      exact rfl
    clear hK K
    refine HQS.go (fun K hK => ?_)
    go_simp
    apply Exists.intro
    refine ⟨fun W hW => ?_, hK _ ?_⟩
    · obtain ⟨q1, q2⟩ := HKX.out W hW
      have ql := lt_of_cell q1
      go_simp
      exact rfl
    clear hK K
    refine HQS.go (fun K hK => ?_)
    go_simp
    apply Exists.intro
    refine ⟨fun W hW => ?_, hK _ ?_⟩
    · (try go_simp)
      exact rfl
    clear hK K
    refine HQS.go (fun K hK => ?_)
    go_simp
    apply Exists.intro
    refine ⟨fun W hW => ?_, hK _ ?_⟩
    · (try go_simp)
      exact rfl
    clear hK K
    refine HQS.go (fun K hK => ?_)
    go_simp
    apply Exists.intro
    refine ⟨fun W hW => ?_, hK _ ?_⟩
    · (try go_simp)
      exact rfl
    clear hK K
    refine HQS.go (fun K hK => ?_)
    go_simp
    apply Exists.intro
    refine ⟨fun W hW => ?_, hK _ ?_⟩
    · obtain ⟨q1, q2⟩ := HKX.out W hW
      have ql := lt_of_cell q1
      go_simp
      exact rfl
    clear hK K
    refine HQS.go (fun K hK => ?_)
    go_simp
    apply Exists.intro
    refine ⟨fun W hW => ?_, hK _ ?_⟩
    · (try go_simp)
      exact rfl
    clear hK K
    refine HQS.go (fun K hK => ?_)
    go_simp
    apply Exists.intro
    refine ⟨fun W hW => ?_, hK _ ?_⟩
    · (try go_simp)
      exact rfl
    clear hK K
    refine HQS.go (fun K hK => ?_)
    go_simp
    apply Exists.intro
    refine ⟨fun W hW => ?_, hK _ ?_⟩
    · (try go_simp)
      exact rfl
    clear hK K
    refine HQS.go (fun K hK => ?_)
    go_simp
    apply Exists.intro
    refine ⟨fun W hW => ?_, hK _ ?_⟩
    · (try go_simp)
      exact rfl
    clear hK K
    refine HQS.go (fun K hK => ?_)
    go_simp
    apply Exists.intro
    refine ⟨fun W hW => ?_, hK _ ?_⟩
    · obtain ⟨q1, q2⟩ := HKX.out W hW
      have ql := lt_of_cell q1
      go_simp
      exact rfl
    clear hK K
    refine HQS.go (fun K hK => ?_)
    go_simp
    apply Exists.intro
    refine ⟨fun W hW => ?_, hK _ ?_⟩
    · (try go_simp)
      exact rfl
    clear hK K
    refine HQS.go (fun K hK => ?_)
    go_simp
    apply Exists.intro
    refine ⟨fun W hW => ?_, hK _ ?_⟩
    · (try go_simp)
      exact rfl
    clear hK K
    refine HQS.go (fun K hK => ?_)
    go_simp
    apply Exists.intro
    refine ⟨fun W hW => ?_, hK _ ?_⟩
    · obtain ⟨q1, q2⟩ := HKX.out W hW
      have ql := lt_of_cell q1
      go_simp
      exact rfl
    clear hK K
    refine HQS.go (fun K hK => ?_)
    go_simp
    apply Exists.intro
    refine ⟨fun W hW => ?_, hK _ ?_⟩
    · (try go_simp)
      exact rfl
    clear hK K
    refine HQS.go (fun K hK => ?_)
    go_simp
    apply Exists.intro
    refine ⟨fun W hW => ?_, hK _ ?_⟩
    · (try go_simp)
      exact rfl
    clear hK K
    refine HQS.go (fun K hK => ?_)
    go_simp
    apply Exists.intro
    refine ⟨fun W hW => ?_, hK _ ?_⟩
    · obtain ⟨q1, q2⟩ := HCELL.out j t2 HTJ.out W (below_trans HX7.out hW)
      have ql := lt_of_cell q1
      go_simp
      exact rfl
    clear hK K
    refine HQS.go (fun K hK => ?_)
    go_simp
    apply Exists.intro
    refine ⟨fun W hW => ?_, hK _ ?_⟩
    · (try go_simp)
      exact rfl
    clear hK K
    refine HQS.go (fun K hK => ?_)
    go_simp
    apply Exists.intro
    refine ⟨fun W hW => ?_, hK _ ?_⟩
    · (try go_simp)
      exact rfl
    clear hK K
    refine HQS.go (fun K hK => ?_)
    go_simp
    apply Exists.intro
    refine ⟨fun W hW => ?_, hK _ ?_⟩
    · (try go_simp)
      exact rfl
    clear hK K
    refine HQN.go ?_
    intro w8 hb8
    have HX8 := Lib.hid (below_trans HX7.out hb8)
    have HS8 := Lib.hid (HS7.out.below hb8)
    have HS58 := Lib.hid (HS57.out.below hb8)
    clear hb8
    go_wp2
    go_ret
    exact ⟨rfl, below_trans HB0.out (below_trans HB3.out HX8.out)⟩
  case neg =>
  have e2 : (s.2 == t2.2) = false := by
    simp only [beq_eq_false_iff_ne, ne_eq]
    intro h
    exact hst (Prod.ext (by have h1 := HS1J.out; have h2 := HPT2.out; omega) h)
  refine wp_region_belowC (by kernel_rfl) (by kernel_rfl) (fun WQ HQS HQN => ?_)
  refine HQS.go (fun K hK => ?_)
  go_simp
  apply Exists.intro
  refine ⟨fun W hW => ?_, hK _ ?_⟩
  · (try go_simp)
    exact rfl
  clear hK K
  refine HQS.go (fun K hK => ?_)
  go_simp
  apply Exists.intro
  refine ⟨fun W hW => ?_, hK _ ?_⟩
  · (try go_simp)
    exact rfl
  clear hK K
  refine HQS.go (fun K hK => ?_)
  go_simp
  apply Exists.intro
  refine ⟨fun W hW => ?_, hK _ ?_⟩
  · obtain ⟨q1, q2⟩ := HKX.out W hW
    have ql := lt_of_cell q1
    go_simp
    exact rfl
  clear hK K
  refine HQS.go (fun K hK => ?_)
  go_simp
  apply Exists.intro
  refine ⟨fun W hW => ?_, hK _ ?_⟩
  · (try go_simp)
    exact rfl
  clear hK K
  refine HQS.go (fun K hK => ?_)
  go_simp
  apply Exists.intro
  refine ⟨fun W hW => ?_, hK _ ?_⟩
  · exact HCKS.out W hW
  clear hK K
  refine HQS.go (fun K hK => ?_)
  go_simp
  apply Exists.intro
  refine ⟨fun W hW => ?_, hK _ ?_⟩
  · (try go_simp)
    exact rfl
  clear hK K
  refine HQS.go (fun K hK => ?_)
  go_simp
  apply Exists.intro
  refine ⟨fun W hW => ?_, hK _ ?_⟩
  · (try go_simp)
    exact rfl
  clear hK K
  refine HQS.go (fun K hK => ?_)
  go_simp
  apply Exists.intro
  refine ⟨fun W hW => ?_, hK _ ?_⟩
  · (try go_simp)
    exact rfl
  clear hK K
  refine HQS.go (fun K hK => ?_)
  go_simp
  apply Exists.intro
  refine ⟨fun W hW => ?_, hK _ ?_⟩
  · obtain ⟨q1, q2⟩ := HKX.out W hW
    have ql := lt_of_cell q1
    go_simp
    exact rfl
  clear hK K
  refine HQS.go (fun K hK => ?_)
  go_simp
  apply Exists.intro
  refine ⟨fun W hW => ?_, hK _ ?_⟩
  · (try go_simp)
    exact rfl
  clear hK K
  refine HQS.go (fun K hK => ?_)
  go_simp
  apply Exists.intro
  refine ⟨fun W hW => ?_, hK _ ?_⟩
  · (try go_simp)
    exact rfl
  clear hK K
  refine HQS.go (fun K hK => ?_)
  go_simp
  apply Exists.intro
  refine ⟨fun W hW => ?_, hK _ ?_⟩
  · (try go_simp)
    exact rfl
  clear hK K
  refine HQS.go (fun K hK => ?_)
  go_simp
  apply Exists.intro
  refine ⟨fun W hW => ?_, hK _ ?_⟩
  · obtain ⟨q1, q2⟩ := HKX.out W hW
    have ql := lt_of_cell q1
    go_simp
    exact rfl
  clear hK K
  refine HQS.go (fun K hK => ?_)
  go_simp
  apply Exists.intro
  refine ⟨fun W hW => ?_, hK _ ?_⟩
  · (try go_simp)
    exact rfl
  clear hK K
  refine HQS.go (fun K hK => ?_)
  go_simp
  apply Exists.intro
  refine ⟨fun W hW => ?_, hK _ ?_⟩
  · (try go_simp)
    exact rfl
  clear hK K
  refine HQS.go (fun K hK => ?_)
  go_simp
  apply Exists.intro
  refine ⟨fun W hW => ?_, hK _ ?_⟩
  · (try go_simp)
    exact rfl
  clear hK K
  refine HQS.go (fun K hK => ?_)
  go_simp
  apply Exists.intro
  refine ⟨fun W hW => ?_, hK _ ?_⟩
  · (try go_simp)
    exact rfl
  clear hK K
  refine HQS.go (fun K hK => ?_)
  go_simp
  apply Exists.intro
  refine ⟨fun W hW => ?_, hK _ ?_⟩
  · obtain ⟨q1, q2⟩ := HKX.out W hW
    have ql := lt_of_cell q1
    go_simp
    exact rfl
  clear hK K
  refine HQS.go (fun K hK => ?_)
  go_simp
  apply Exists.intro
  refine ⟨fun W hW => ?_, hK _ ?_⟩
  · (try go_simp)
    exact rfl
  clear hK K
  refine HQS.go (fun K hK => ?_)
  go_simp
  apply Exists.intro
  refine ⟨fun W hW => ?_, hK _ ?_⟩
  · (try go_simp)
    exact rfl
  clear hK K
  refine HQS.go (fun K hK => ?_)
  go_simp
  apply Exists.intro
  refine ⟨fun W hW => ?_, hK _ ?_⟩
  · obtain ⟨q1, q2⟩ := HKX.out W hW
    have ql := lt_of_cell q1
    go_simp
    exact rfl
  clear hK K
  refine HQS.go (fun K hK => ?_)
  go_simp
  apply Exists.intro
  refine ⟨fun W hW => ?_, hK _ ?_⟩
  · (try go_simp)
    exact rfl
  clear hK K
  refine HQS.go (fun K hK => ?_)
  go_simp
  apply Exists.intro
  refine ⟨fun W hW => ?_, hK _ ?_⟩
  · (try go_simp)
    exact rfl
  clear hK K
  refine HQS.go (fun K hK => ?_)
  go_simp
  apply Exists.intro
  refine ⟨fun W hW => ?_, hK _ ?_⟩
  · obtain ⟨q1, q2⟩ := HCELL.out j t2 HTJ.out W (below_trans HX7.out hW)
    have ql := lt_of_cell q1
    go_simp
    exact rfl
  clear hK K
  refine HQS.go (fun K hK => ?_)
  go_simp
  apply Exists.intro
  refine ⟨fun W hW => ?_, hK _ ?_⟩
  · (try go_simp)
    exact rfl
  clear hK K
  refine HQS.go (fun K hK => ?_)
  go_simp
  apply Exists.intro
  refine ⟨fun W hW => ?_, hK _ ?_⟩
  · (try go_simp)
    exact rfl
  clear hK K
  refine HQS.go (fun K hK => ?_)
  go_simp
  apply Exists.intro
  refine ⟨fun W hW => ?_, hK _ ?_⟩
  · (try go_simp)
    exact rfl
  clear hK K
  refine HQN.go ?_
  intro w8 hb8
  have HX8 := Lib.hid (below_trans HX7.out hb8)
  have HS8 := Lib.hid (HS7.out.below hb8)
  have HS58 := Lib.hid (HS57.out.below hb8)
  clear hb8
  have HB8 := Lib.hid (below_trans HB3.out HX8.out)
  have HKA : Hid (∀ W, Below w8.heap.size w8 W → W.cell? ⟨w.heap.size, 0, none⟩ = some (.int .i64 s.1) ∧ W.cell? ⟨w.heap.size, 1, none⟩ = some (.int .i64 s.2)) := Lib.hid (fun W hW => HK.out W (below_trans HB8.out hW))
  have HCL8 : Hid (∀ (j : Nat) (t : Int × Int), L[j]? = some t → ∀ W, Below w8.heap.size w8 W → W.cell? ⟨bl, ol + j * 2, none⟩ = some (.int .i64 t.1) ∧ W.cell? ⟨bl, ol + j * 2 + 1, none⟩ = some (.int .i64 t.2)) := Lib.hid (fun j t hj W hW => HCELL.out j t hj W (below_trans HX8.out hW))
  have hcol := commit_col L j s t2 PT (by have := g1; omega) (by have := valid_nat HVT.out; omega) HTJ.out hst (by rw [HSL.out, HLVE.out]; exact HPP.out.2.1)
  rw [HSL.out, HLVE.out] at hcol
  have hlen : (txt LV).length ≤ 20 ∧ (ptx m j (shLf s) PT).length ≤ 20 := by
    have h1 := (txt_len LV).1
    have h2 := HLL.out
    have h3 := ptx_len m j (shLf s) PT
    have h4 := plen_lt_n m j (by omega)
    exact ⟨by omega, by omega⟩
  have hys : (shLf s).size ≤ 200 := by rw [shLf_eq, dg_size]; omega
  have hts := shT_sm HVS.out
  have hjz : ∀ u : Int × Int, validB u = true → (shJ u).size ≤ 1000000000 := fun u hu => by
    have h1 := jb2 bLeaf (shT u) (by decide) (shT_sm hu)
    unfold shJ
    show ((jn [bLeaf, shT u]).toArray).size ≤ 1000000000
    simp; omega
  have HSHOWN : Hid (∀ (W : World) (A' : Option Addr) (c' : Nat), Strs W A' (L.map shJ ++ txt LV ++ [shJ s] ++ ptx m j (shLf s) PT) → Calls Tryz.prog 25 #[.slice A' (m + (txt LV).length + 1 + (ptx m j (shLf s) PT).length) c'] W fun e w' => e = .returned (.bool true) ∧ Below W.heap.size W w') := Lib.hid (fun W A' c' hs' => by
    have := shown_any A' c' (L.map shJ ++ txt LV ++ [shJ s] ++ ptx m j (shLf s) PT) W hs' (by have := HSL.out; rw [List.length_append, List.length_append, List.length_append, List.length_map, List.length_singleton]; omega) (fun u hu => by
      rcases List.mem_append.1 hu with h5 | h5
      · rcases List.mem_append.1 h5 with h6 | h6
        · rcases List.mem_append.1 h6 with h7 | h7
          · obtain ⟨x, hx, rfl⟩ := List.mem_map.1 h7
            exact hjz x (List.all_eq_true.1 HON.out x hx)
          · exact txt_small LV HLS.out u h7
        · rw [List.mem_singleton.1 h6]; exact hjz s HVS.out
      · exact ptx_small m j (shLf s) PT HPP.out.1 hys u h5) hcol
    rw [List.length_append, List.length_append, List.length_append, List.length_map, List.length_singleton, HSL.out] at this
    exact this)
  have HPTX : Hid (∀ (W : World), Strs W A6 PT → Calls Tryz.prog 23 #[.int .i64 (m : Int), .int .i64 (j : Int), .string (shLf s), .slice A6 PT.length c6] W fun e w' => ∃ v, e = .returned v ∧ w'.ownsRow W.heap.size 9 1 v (ptx m j (shLf s) PT).length ((ptx m j (shLf s) PT).map Value.string) ∧ Below W.heap.size W w') := Lib.hid (fun W hs' => rptx_any m m j (shLf s) A6 c6 PT W (Nat.le_refl _) (by omega) (by omega) hjm HPP.out.2.2 HC6.out hs' HPS.out hys)
  have HTX : Hid (∀ W, Calls Tryz.prog 21 #[.agg #[.int .i64 s.1, .int .i64 s.2]] W fun e w' => e = .returned (.string (shT s)) ∧ Below W.heap.size W w') := Lib.hid (fun W => rtext_any s W ⟨by omega, by omega⟩ ⟨by omega, by omega⟩)
  have HLF : Hid (∀ W, Calls Tryz.prog 24 #[.string (shT s)] W fun e w' => e = .returned (.string (shLf s)) ∧ Below W.heap.size W w') := Lib.hid (fun W => rleaf_any (shT s) hts W)
  have HJN : Hid (∀ W : World, Calls Tryz.prog 20 #[.slice (some ⟨W.heap.size, 0, none⟩) 2 2] (W.alloc (.cells #[.string ⟨#[108, 101, 97, 102]⟩, .string (shT s)] 9)) fun e w' => e = .returned (.string (shJ s)) ∧ Below W.heap.size W w') := Lib.hid (fun W => rjoin2 (shT s) hts W)
  have HXL8 := Lib.hid (fun W hs' => HXL.out W A5 c5 HC5.out hs')
  have HLEN := Lib.hid hlen
  clear hcol hlen hys hts hjz
  generalize ptx m j (shLf s) PT = TX at *
  generalize shLf s = ys at *
  generalize shT s = ts at *
  generalize shJ s = js at *
  generalize txt LV = TL at *
  obtain ⟨ip, hj1, hy0, hy1, hy2⟩ := info_parts info_strg
  have HI := Lib.hid (And.intro hj1 (And.intro hy0 (And.intro hy1 hy2)))
  clear hj1 hy0 hy1 hy2
  have HO0 : Hid (w8.ownsRow w8.heap.size 9 1 (.slice none 0 0) 0 []) := ⟨rfl, .inl ⟨rfl, rfl⟩⟩
  go_wp2_with fail
  go_loopw [25, 26] (fun u25 u26 wr => ∃ i : Nat, i ≤ m ∧ u26 = .int .i64 i ∧ Below w8.heap.size w8 wr ∧ wr.ownsRow w8.heap.size 9 1 u25 i (((L.take i).map shJ).map Value.string)) (fun _ u26 _ => m - (intOf u26).toNat)
  case atStart => exact ⟨0, Nat.zero_le _, rfl, Below.refl _ _, HO0.out⟩
  case round =>
  obtain ⟨i, hi, rfl, hbw, how⟩ := hrel
  have HBW := Lib.hid hbw
  have HOW := Lib.hid how
  clear hbw how
  by_cases hlt : i < m
  case pos =>
    obtain ⟨t3, ht3⟩ := get_some L i (by rw [HSL.out]; exact hlt)
    obtain ⟨d1, d2⟩ := HCL8.out i t3 ht3 wr HBW.out
    have dl := lt_of_cell d1
    have hv3 := (HLV.out i t3 ht3).1
    obtain ⟨f1, f2⟩ := valid_nat hv3
    have hili : (i : Int) < (m : Int) := by omega
    have HTX3 := Lib.hid (rtext_any t3 wr ⟨by omega, by omega⟩ ⟨by omega, by omega⟩)
    have HJN3 := Lib.hid (fun W => rjoin2 (shT t3) (shT_sm hv3) W)
    have HS3 := Lib.hid ht3
    obtain ⟨y3, hy3⟩ : ∃ y, shJ t3 = y := ⟨_, rfl⟩
    have HY3 := Lib.hid hy3
    unfold shJ at hy3
    rw [hy3] at HJN3
    clear ht3 hv3 hy3
    generalize shT t3 = ts3 at *
    go_wp2_with fail
    refine HTX3.out.mono ?_
    rintro e z1 ⟨rfl, hb1⟩
    have HZ1 := Lib.hid (below_trans HBW.out hb1)
    have HO1 := Lib.hid (row_below HOW.out hb1)
    clear hb1 d1 d2 dl
    go_wp2_with fail
    refine (HJN3.out z1).mono ?_
    rintro e z2 ⟨rfl, hb2⟩
    have HZ2 := Lib.hid (below_trans HZ1.out hb2)
    have HO2 : Hid ((z2.alloc (.cells #[.string y3] 9)).ownsRow w8.heap.size 9 1 u25 i (((L.take i).map shJ).map Value.string)) := Lib.hid (row_below (row_below HO1.out hb2) (below_alloc (Below.refl _ _) _))
    clear hb2
    go_wp2_with (at_builtin; refine wpList_app _ rfl (.tmp 120) (.tmp 128) 26 26 rfl w8.heap.size 9 9 ip _ 1 16 Tryz.underlying26 Tryz.underlying26 HI.out.1 HI.out.2.1 HI.out.2.2.1 HI.out.2.2.2 rfl (by omega) u25 i _ rfl HO2.out (some ⟨z2.heap.size, 0, none⟩) 1 1 [.string y3] rfl (Rd_new z2 #[.string y3] _ 1 1 _ rfl rfl) (by simp [Value.oneCell']) (by simp only [maxLen]; omega) (by omega) (by have := HZ2.out.size; simp; omega) ?_)
    intro v4 z4 hown4 hg4
    have HZ4 : Hid (Below w8.heap.size w8 z4) := Lib.hid ((below_alloc HZ2.out _).grown hg4 (by have := HZ2.out.size; simp; omega) (fun j hj => (HO2.out.lt j hj).1))
    have HO4 := Lib.hid hown4
    clear hown4 hg4
    go_wp2
    go_roundw
    case rel => exact ⟨i + 1, by omega, by go_num, HZ4.out, by rw [take_snoc _ _ _ HS3.out]; simpa [HY3.out] using HO4.out⟩
    case measure => simp [intOf]; omega
  case neg =>
  obtain rfl : i = m := by omega
  rw [List.take_of_length_le (by rw [HSL.out]; exact Nat.le_refl _)] at HOW
  generalize wr = y0 at *
  go_wp2_with fail
  refine wp_region_held_drew (S := fun W => W.cell? ⟨w.heap.size, 0, none⟩ = some (.int .i64 s.1) ∧ W.cell? ⟨w.heap.size, 1, none⟩ = some (.int .i64 s.2)) (by kernel_rfl) (HKA.out _ HBW.out.drew) (fun hSS => ?_)
  refine wpAnyH_take (i := 0) (v := ?_) rfl (by kernel_rfl) (by kernel_rfl) (by kernel_rfl) (fun _ _ _ h => h) (Or.inl ⟨by kernel_rfl, ?hy⟩) hSS ?rest
  case hy => (intro w hSw; clear hSw; go_simp; try with_reducible rfl)
  case rest =>
  refine wpAnyH_take (i := 1) (v := ?_) rfl (by kernel_rfl) (by kernel_rfl) (by kernel_rfl) (fun _ _ _ h => h) (Or.inl ⟨by kernel_rfl, ?hy⟩) hSS ?rest
  case hy => (intro w hSw; clear hSw; go_simp; try with_reducible rfl)
  case rest =>
  refine wpAnyH_take (i := 4) (v := ?_) rfl (by kernel_rfl) (by kernel_rfl) (by kernel_rfl) (fun _ _ _ h => h) (Or.inl ⟨by kernel_rfl, ?hy⟩) hSS ?rest
  case hy => (intro w hSw; (try dsimp only at hSw); obtain ⟨q1, q2⟩ := hSw; have ql := lt_of_cell q1; go_simp; try with_reducible rfl)
  case rest =>
  refine wpAnyH_ready (rs := [2]) (by kernel_rfl) (by simp) ?_
  refine AllReadyH.cons rfl (fun K hK => ?_) AllReadyH.nil
  go_simp
  refine (HXL8.out _ (HS58.out.below HBW.out.drew)).mono ?_
  rintro e y1 ⟨v1, rfl, ho, hb⟩
  have HY1 := Lib.hid (below_trans HBW.out.drew hb)
  have HOA : Hid (y1.ownsRow w8.heap.size 9 1 u25 i ((L.map shJ).map Value.string)) := Lib.hid (row_below HOW.out (below_trans (Below.refl y0.heap.size y0).drew hb))
  obtain ⟨A7, c7, rfl, -, -, hr7⟩ := Rd.of_own ho
  have HR7 := Lib.hid hr7
  clear ho hb hr7
  go_simp
  refine hK.out _ _ (HKA.out _ HY1.out) (fun hSS => ?_)
  clear hK K
  refine wpAnyH_ready (rs := [3]) (by kernel_rfl) (by simp) ?_
  refine AllReadyH.cons rfl (fun K hK => ?_) AllReadyH.nil
  refine step_appT y1 (by kernel_rfl) (.tmp 130) (.tmp 132) 26 26 rfl w8.heap.size 9 9 ip _ 1 16 Tryz.underlying26 Tryz.underlying26 HI.out.1 HI.out.2.1 HI.out.2.2.1 HI.out.2.2.2 rfl (by omega) u25 i _ (by kernel_rfl) HOA.out A7 TL.length c7 (TL.map Value.string) (by kernel_rfl) HR7.out (by intro u hu; obtain ⟨t, _, rfl⟩ := List.mem_map.1 hu; rfl) (by have := HLEN.out; simp only [maxLen]; omega) (by have := HLEN.out; omega) HY1.out.size ?_
  intro v2 y2 ho hg
  have HY2 : Hid (Below w8.heap.size w8 y2) := Lib.hid (HY1.out.grown hg HY1.out.size (fun j hj => (HOA.out.lt j hj).1))
  have HOB := Lib.hid ho
  clear ho hg
  refine hK.out _ _ (HKA.out _ HY2.out) (fun hSS => ?_)
  clear hK K
  refine wpAnyH_ready (rs := [5]) (by kernel_rfl) (by simp) ?_
  refine AllReadyH.cons rfl (fun K hK => ?_) AllReadyH.nil
  go_simp
  refine (HTX.out y2).mono ?_
  rintro e y3 ⟨rfl, hb⟩
  have HY3 := Lib.hid (below_trans HY2.out hb)
  have HOC := Lib.hid (row_below HOB.out hb)
  clear hb
  go_simp
  refine hK.out _ _ (HKA.out _ HY3.out) (fun hSS => ?_)
  clear hK K
  refine wpAnyH_ready (rs := [6]) (by kernel_rfl) (by simp) ?_
  refine AllReadyH.cons rfl (fun K hK => ?_) AllReadyH.nil
  go_simp
  refine hK.out _ _ (HKA.out _ (below_alloc HY3.out _)) (fun hSS => ?_)
  clear hK K
  refine wpAnyH_ready (rs := [7]) (by kernel_rfl) (by simp) ?_
  refine AllReadyH.cons rfl (fun K hK => ?_) AllReadyH.nil
  go_simp
  refine (HJN.out y3).mono ?_
  rintro e y4 ⟨rfl, hb⟩
  have HY4 := Lib.hid (below_trans HY3.out hb)
  have HOD : Hid ((y4.alloc (.cells #[.string js] 9)).ownsRow w8.heap.size 9 1 v2 (i + TL.length) ((L.map shJ).map Value.string ++ TL.map Value.string)) := Lib.hid (row_below (row_below HOC.out hb) (below_alloc (Below.refl _ _) _))
  clear hb
  go_simp
  refine hK.out _ _ (HKA.out _ HY4.out) (fun hSS => ?_)
  clear hK K
  refine wpAnyH_ready (rs := [8]) (by kernel_rfl) (by simp) ?_
  refine AllReadyH.cons rfl (fun K hK => ?_) AllReadyH.nil
  go_simp
  refine hK.out _ _ (HKA.out _ (below_alloc HY4.out _)) (fun hSS => ?_)
  clear hK K
  refine wpAnyH_ready (rs := [9]) (by kernel_rfl) (by simp) ?_
  refine AllReadyH.cons rfl (fun K hK => ?_) AllReadyH.nil
  refine step_appT (y4.alloc (.cells #[.string js] 9)) (by kernel_rfl) (.tmp 133) (.tmp 138) 26 26 rfl w8.heap.size 9 9 ip _ 1 16 Tryz.underlying26 Tryz.underlying26 HI.out.1 HI.out.2.1 HI.out.2.2.1 HI.out.2.2.2 rfl (by omega) v2 (i + TL.length) _ (by kernel_rfl) HOD.out (some ⟨y4.heap.size, 0, none⟩) 1 1 [.string js] (by kernel_rfl) (Rd_new y4 #[.string js] _ 1 1 _ rfl rfl) (by simp [Value.oneCell']) (by have := HLEN.out; simp only [maxLen]; omega) (by have := HLEN.out; omega) (by have := HY4.out.size; simp; omega) ?_
  intro v5 y5 ho hg
  have HY5 : Hid (Below w8.heap.size w8 y5) := Lib.hid ((below_alloc HY4.out _).grown hg (by have := HY4.out.size; simp; omega) (fun j hj => (HOD.out.lt j hj).1))
  have HOE := Lib.hid ho
  clear ho hg
  refine hK.out _ _ (HKA.out _ HY5.out) (fun hSS => ?_)
  clear hK K
  refine wpAnyH_take (i := 10) (v := ?_) rfl (by kernel_rfl) (by kernel_rfl) (by kernel_rfl) (fun _ _ _ h => h) (Or.inl ⟨by kernel_rfl, ?hy⟩) hSS ?rest
  case hy => (intro w hSw; clear hSw; go_simp; try with_reducible rfl)
  case rest =>
  refine wpAnyH_done (by kernel_rfl) ?_ _
  clear hSS
  obtain ⟨q1, q2⟩ := HKA.out y5 HY5.out
  have ql := lt_of_cell q1
  have hdl1 : decide (s.1 < 1) = false := decide_eq_false (by omega)
  have hdl2 : decide ((i : Int) < s.1) = false := decide_eq_false (by omega)
  go_wp2_with fail
  refine (HCHR.out y5 A6 c6 s true HCV.out (below_trans HX8.out HY5.out) HC6.out (HS8.out.below HY5.out)).mono ?_
  rintro e y6 ⟨rfl, hb⟩
  have HY6 := Lib.hid (below_trans HY5.out hb)
  have HOF := Lib.hid (row_below HOE.out hb)
  clear hb q1 q2 ql
  go_wp2_with fail
  refine wp_region_held_drew (S := fun W => W.cell? ⟨w.heap.size, 0, none⟩ = some (.int .i64 s.1) ∧ W.cell? ⟨w.heap.size, 1, none⟩ = some (.int .i64 s.2)) (by kernel_rfl) (HKA.out _ HY6.out.drew) (fun hSS => ?_)
  refine wpAnyH_take (i := 0) (v := ?_) rfl (by kernel_rfl) (by kernel_rfl) (by kernel_rfl) (fun _ _ _ h => h) (Or.inl ⟨by kernel_rfl, ?hy⟩) hSS ?rest
  case hy => (intro w hSw; clear hSw; go_simp; try with_reducible rfl)
  case rest =>
  refine wpAnyH_take (i := 1) (v := ?_) rfl (by kernel_rfl) (by kernel_rfl) (by kernel_rfl) (fun _ _ _ h => h) (Or.inl ⟨by kernel_rfl, ?hy⟩) hSS ?rest
  case hy => (intro w hSw; clear hSw; go_simp; try with_reducible rfl)
  case rest =>
  refine wpAnyH_take (i := 2) (v := ?_) rfl (by kernel_rfl) (by kernel_rfl) (by kernel_rfl) (fun _ _ _ h => h) (Or.inl ⟨by kernel_rfl, ?hy⟩) hSS ?rest
  case hy => (intro w hSw; clear hSw; go_simp; try with_reducible rfl)
  case rest =>
  refine wpAnyH_take (i := 3) (v := ?_) rfl (by kernel_rfl) (by kernel_rfl) (by kernel_rfl) (fun _ _ _ h => h) (Or.inl ⟨by kernel_rfl, ?hy⟩) hSS ?rest
  case hy => (intro w hSw; (try dsimp only at hSw); obtain ⟨q1, q2⟩ := hSw; have ql := lt_of_cell q1; go_simp; try with_reducible rfl)
  case rest =>
  refine wpAnyH_take (i := 4) (v := ?_) rfl (by kernel_rfl) (by kernel_rfl) (by kernel_rfl) (fun _ _ _ h => h) (Or.inl ⟨by kernel_rfl, ?hy⟩) hSS ?rest
  case hy => (intro w hSw; clear hSw; go_simp; try with_reducible rfl)
  case rest =>
  refine wpAnyH_take (i := 5) (v := ?_) rfl (by kernel_rfl) (by kernel_rfl) (by kernel_rfl) (fun _ _ _ h => h) (Or.inl ⟨by kernel_rfl, ?hy⟩) hSS ?rest
  case hy => (intro w hSw; (try dsimp only at hSw); obtain ⟨q1, q2⟩ := hSw; have ql := lt_of_cell q1; go_simp; try with_reducible rfl)
  case rest =>
  refine wpAnyH_take (i := 8) (v := ?_) rfl (by kernel_rfl) (by kernel_rfl) (by kernel_rfl) (fun _ _ _ h => h) (Or.inl ⟨by kernel_rfl, ?hy⟩) hSS ?rest
  case hy => (intro w hSw; clear hSw; go_simp; try with_reducible rfl)
  case rest =>
  refine wpAnyH_ready (rs := [6]) (by kernel_rfl) (by simp) ?_
  refine AllReadyH.cons rfl (fun K hK => ?_) AllReadyH.nil
  go_simp
  refine (HTX.out _).mono ?_
  rintro e y7 ⟨rfl, hb⟩
  have HY7 := Lib.hid (below_trans HY6.out.drew hb)
  have HOG := Lib.hid (row_below HOF.out (below_trans (Below.refl y6.heap.size y6).drew hb))
  clear hb
  go_simp
  refine hK.out _ _ (HKA.out _ HY7.out) (fun hSS => ?_)
  clear hK K
  refine wpAnyH_ready (rs := [7]) (by kernel_rfl) (by simp) ?_
  refine AllReadyH.cons rfl (fun K hK => ?_) AllReadyH.nil
  go_simp
  refine (HLF.out y7).mono ?_
  rintro e y8 ⟨rfl, hb⟩
  have HY8 := Lib.hid (below_trans HY7.out hb)
  have HOH := Lib.hid (row_below HOG.out hb)
  clear hb
  go_simp
  refine hK.out _ _ (HKA.out _ HY8.out) (fun hSS => ?_)
  clear hK K
  refine wpAnyH_ready (rs := [9]) (by kernel_rfl) (by simp) ?_
  refine AllReadyH.cons rfl (fun K hK => ?_) AllReadyH.nil
  go_simp
  refine (HPTX.out y8 (HS8.out.below HY8.out)).mono ?_
  rintro e y9 ⟨v9, rfl, ho, hb⟩
  have HY9 := Lib.hid (below_trans HY8.out hb)
  have HOJ := Lib.hid (row_below HOH.out hb)
  obtain ⟨A9, c9, rfl, -, -, hr9⟩ := Rd.of_own ho
  have HR9 := Lib.hid hr9
  clear ho hb hr9
  go_simp
  refine hK.out _ _ (HKA.out _ HY9.out) (fun hSS => ?_)
  clear hK K
  refine wpAnyH_ready (rs := [10]) (by kernel_rfl) (by simp) ?_
  refine AllReadyH.cons rfl (fun K hK => ?_) AllReadyH.nil
  refine step_appT y9 (by kernel_rfl) (.tmp 157) (.tmp 166) 26 26 rfl w8.heap.size 9 9 ip _ 1 16 Tryz.underlying26 Tryz.underlying26 HI.out.1 HI.out.2.1 HI.out.2.2.1 HI.out.2.2.2 rfl (by omega) v5 (i + TL.length + 1) _ (by kernel_rfl) HOJ.out A9 TX.length c9 (TX.map Value.string) (by kernel_rfl) HR9.out (by intro u hu; obtain ⟨t, _, rfl⟩ := List.mem_map.1 hu; rfl) (by have := HLEN.out; simp only [maxLen]; omega) (by have := HLEN.out; omega) HY9.out.size ?_
  intro v10 y10 ho hg
  have HY10 : Hid (Below w8.heap.size w8 y10) := Lib.hid (HY9.out.grown hg HY9.out.size (fun j hj => (HOJ.out.lt j hj).1))
  obtain ⟨A10, c10, rfl, -, -, hr10⟩ := Rd.of_own ho
  have HSH := Lib.hid (HSHOWN.out y10 A10 c10 (by unfold Strs; simpa [HSL.out, Nat.add_assoc, Nat.add_comm 1] using hr10))
  clear ho hg hr10
  refine hK.out _ _ (HKA.out _ HY10.out) (fun hSS => ?_)
  clear hK K
  refine wpAnyH_take (i := 11) (v := ?_) rfl (by kernel_rfl) (by kernel_rfl) (by kernel_rfl) (fun _ _ _ h => h) (Or.inl ⟨by kernel_rfl, ?hy⟩) hSS ?rest
  case hy => (intro w hSw; clear hSw; go_simp; try with_reducible rfl)
  case rest =>
  refine wpAnyH_done (by kernel_rfl) ?_ _
  clear hSS
  go_wp2_with fail
  refine HSH.out.mono ?_
  rintro e y11 ⟨rfl, hb⟩
  have HY11 := Lib.hid (below_trans HY10.out hb)
  clear hb
  go_wp2
  go_ret
  exact ⟨rfl, below_trans HB0.out (below_trans HB8.out HY11.out)⟩
end Go.Proofs.YtbefcipeojahfaaGreatDoor
