/- TopHonest: the reference's Ints; w11Honest. TopHonest: the law's walk. -/
import Derived.Test.YtjfondfjdhjooaaGreatDoorChTopHonestD
namespace Go.Proofs.YtjfondfjdhjooaaGreatDoor
set_option linter.unusedVariables false
set_option linter.unusedSimpArgs false

section
open Go.RowKit

set_option maxRecDepth 100000 in
set_option maxHeartbeats 4000000 in
theorem rints_any (A B : Option Addr) (c d : Nat) (l m : List Int) (w : World) (hA : Ints w A l) (hB : Ints w B m) (hl : l.length ≤ 1000000) (hm : m.length ≤ 1000000) :
    Calls Tryz.prog 15 #[.slice A l.length c, .slice B m.length d] w fun e w' => e = .returned (.bool (decide (l = m))) ∧ Below w.heap.size w w' := by
  have HA := Lib.hid hA; clear hA
  have HB := Lib.hid hB; clear hB
  by_cases hlen : l.length = m.length
  case neg =>
    have h1 : (((l.length : Int)) == (m.length : Int)) = false := by simp; omega
    have h2 : (((l.length : Int)) != (m.length : Int)) = true := by simp; omega
    have hne : decide (l = m) = false := by
      rw [decide_eq_false_iff_not]
      intro e
      exact hlen (by rw [e])
    have HNE := Lib.hid hne; clear hne hlen
    go_enter Tryz.func15, Tryz.ntmps15
    go_wp2
    go_ret
    rw [HNE.out]
    exact ⟨rfl, Below.refl _ _⟩
  case pos =>
  have h1 : (((l.length : Int)) == (m.length : Int)) = true := by simp [hlen]
  have h2 : (((l.length : Int)) != (m.length : Int)) = false := by simp [hlen]
  have HL := Lib.hid hlen; clear hlen
  go_enter Tryz.func15, Tryz.ntmps15
  go_wp2_with fail
  go_loopw [5] (fun u5 wr => ∃ (k q : Nat), k ≤ l.length ∧ u5 = .int .i64 k ∧ wr = w.drewN q ∧ l.take k = m.take k) (fun u5 _ => l.length - (intOf u5).toNat)
  case atStart => exact ⟨0, 0, Nat.zero_le _, rfl, rfl, rfl⟩
  case round =>
  obtain ⟨k, q, hk, rfl, rfl, hkm⟩ := hrel
  have HKM := Lib.hid hkm; clear hkm
  by_cases hlt : k < l.length
  case neg =>
    have he : decide (l = m) = true := by
      have := HKM.out
      have hl := HL.out
      rw [List.take_of_length_le (by omega), List.take_of_length_le (by omega)] at this
      simpa using this
    have HE := Lib.hid he; clear he
    go_wp2
    go_ret
    rw [HE.out]
    exact ⟨rfl, below_drewN (Below.refl _ _) _⟩
  case pos =>
  obtain ⟨s, hs⟩ := get_some l k hlt
  obtain ⟨t, ht⟩ := get_some m k (by rw [← HL.out]; exact hlt)
  have hmk : k < m.length := (List.getElem?_eq_some_iff.1 ht).1
  obtain ⟨b, off, rfl, hc1⟩ := HA.out.at_ hs
  obtain ⟨b', off', rfl, hd1⟩ := HB.out.at_ ht
  have HS := Lib.hid hs
  have HT := Lib.hid ht
  clear hs ht
  by_cases hst : s = t
  case pos =>
    have e1 : (s == t) = true := by simp [hst]
    have e2 : (s != t) = false := by simp [hst]
    have HST := Lib.hid hst; clear hst
    go_wp2
    go_quiet (fail)
    go_wp2
    go_roundw
    case rel => exact ⟨k + 1, _, by omega, by go_num, rfl, by rw [take_snoc l k s HS.out, take_snoc m k t HT.out, HKM.out, HST.out]⟩
    case measure => simp [intOf]; omega
  case neg =>
    have hne : decide (l = m) = false := by
      rw [decide_eq_false_iff_not]
      intro e
      have h1 := HS.out
      have h2 := HT.out
      rw [e, h2] at h1
      exact hst (Option.some.inj h1).symm
    have HNE := Lib.hid hne; clear hne
    have e1 : (s == t) = false := by simp [hst]
    have e2 : (s != t) = true := by simp [hst]
    clear hst
    go_wp2
    go_quiet (fail)
    go_wp2
    go_ret
    rw [HNE.out]
    exact ⟨rfl, below_drewN (below_drewN (Below.refl _ _) _) _⟩

theorem own_ints {w : World} {base : Nat} {v : Value} {l : List Int} (h : w.ownsRow base 3 1 v l.length (l.map (Value.int .i64))) : ∃ A c, v = .slice A l.length c ∧ l.length ≤ c ∧ c ≤ maxLen ∧ Ints w A l := by
  obtain ⟨A, c, rfl, h1, h2, h3⟩ := Rd.of_own h
  exact ⟨A, c, rfl, h1, h2, h3⟩
theorem tk_ex : tkE [1, 2] [0, 1] [7, 7] = 0 ∧ tkV [1, 2] [0, 1] [7, 7] = [240, 480] ∧ listB [240, 480] = true := by decide +kernel
theorem htk (W : World) (A B C : Option Addr) (hA : Ints W A [1, 2]) (hB : Ints W B [0, 1]) (hC : Ints W C [7, 7]) : Calls Tryz.prog 13 #[.slice A 2 2, .slice B 2 2, .slice C 2 2] W fun e w' => ∃ A c, e = .returned (.tuple #[.slice A 2 c, .int .i64 0]) ∧ Ints w' A [240, 480] ∧ Below W.heap.size W w' := by
  have h := ltickets_any A B C 2 2 2 [1, 2] [0, 1] [7, 7] W hA hB hC (by decide) (by decide) (by decide)
  rw [tk_ex.1, tk_ex.2.1] at h
  refine h.mono ?_
  rintro e w' ⟨v, rfl, ho, hb⟩
  obtain ⟨A', c', rfl, -, -, hi⟩ := own_ints ho
  exact ⟨A', c', rfl, hi, hb⟩
theorem hwins (W : World) (A TA : Option Addr) (tc : Nat) (x y : Kr) (hT : Tabs W) (hA : RowOf krC 3 W A [x, y]) (hx : KrIn W x) (hy : KrIn W y) (hxo : okK 2 2 0 x = true) (hyo : okK 2 2 0 y = true) (xn : x.seeds.length = 1) (yn : y.seeds.length = 1) (hTk : Ints W TA [240, 480]) :
    Calls Tryz.prog 14 #[.slice A 2 2, .int .i64 2, .int .i64 0, .int .i64 1, .int .u8 1, .slice TA 2 tc] W fun e w' => ∃ A' c', e = .returned (.tuple #[.slice A' 2 c', .bool true]) ∧ Ints w' A' [240, 480] ∧ Below W.heap.size W w' :=
  w11wins_any A 2 [x, y] 2 0 1 1 TA tc [240, 480] W hT hA (fun kr hk => by
    rcases List.mem_cons.1 hk with rfl | hk
    · exact hx
    · rw [List.mem_singleton.1 hk]; exact hy) (Nat.le_refl 2) (show 1 ≤ 2 by decide) (show 2 ≤ 3 by decide) (by
    show (okK 2 2 0 x && (okK 2 2 0 y && true)) = true
    rw [hxo, hyo]; rfl) 1 (fun kr hk => by
    rcases List.mem_cons.1 hk with rfl | hk
    · exact xn
    · rw [List.mem_singleton.1 hk]; exact yn) (by decide) (show 1 < 2 by decide) (by decide) hTk tk_ex.2.2
theorem hints (A B : Option Addr) (c d : Nat) (W : World) (hA : Ints W A [240, 480]) (hB : Ints W B [240, 480]) : Calls Tryz.prog 15 #[.slice A 2 c, .slice B 2 d] W fun e w' => e = .returned (.bool true) ∧ Below W.heap.size W w' :=
  rints_any A B c d [240, 480] [240, 480] W hA hB (by decide) (by decide)
theorem kints_new (w : World) (a b : Int) (g : Nat) (hg : g = w.heap.size) : Ints (w.alloc (.cells #[.int .i64 a, .int .i64 b] 3)) (some ⟨g, 0, none⟩) [a, b] :=
  Rd_new w #[.int .i64 a, .int .i64 b] 3 1 2 g rfl hg
theorem kints_one (w : World) (a : Int) (g : Nat) (hg : g = w.heap.size) : Ints (w.alloc (.cells #[.int .i64 a] 3)) (some ⟨g, 0, none⟩) [a] :=
  Rd_new w #[.int .i64 a] 3 1 1 g rfl hg
set_option maxRecDepth 100000 in
set_option maxHeartbeats 16000000 in
theorem honest_any (w : World) (hT : Tabs w) : Calls Tryz.prog 10 #[] w fun e w' => e = .returned (.bool true) ∧ Below w.heap.size w w' := by
  have HT : Hid (∀ W, Below w.heap.size w W → Tabs W) := Lib.hid (fun W hW => hT.below hW)
  clear hT
  have H1 : Hid (∀ W, ((((w.alloc (.cells #[.int .i64 700] 3)).alloc (.cells #[.int .i64 1] 3)).alloc (.cells #[.int .i64 50] 3)).alloc (.cells #[.int .i64 3] 3)) = W → Below w.heap.size w W ∧ W.heap.size = w.heap.size + 4 ∧ KrIn W ⟨some ⟨w.heap.size, 0, none⟩, 1, [700], ⟨#[97]⟩, some ⟨w.heap.size + 1, 0, none⟩, 1, [1]⟩ ∧ KrIn W ⟨some ⟨w.heap.size + 2, 0, none⟩, 1, [50], ⟨#[98]⟩, some ⟨w.heap.size + 3, 0, none⟩, 1, [3]⟩) := Lib.hid (fun W0 hW0 => by
    rw [← hW0]
    refine ⟨below_alloc (below_alloc (below_alloc (below_alloc (Below.refl _ _) _) _) _) _, by simp, ⟨?_, ?_, (show (1 : Nat) ≤ 9223372036854775807 by decide), (show (1 : Nat) ≤ 9223372036854775807 by decide), Nat.le_refl 1, Nat.le_refl 1, (show (1 : Nat) ≤ 9223372036854775807 by decide), (show (1 : Nat) ≤ 9223372036854775807 by decide), (show (1 : Nat) ≤ 9223372036854775807 by decide)⟩, ⟨?_, ?_, (show (1 : Nat) ≤ 9223372036854775807 by decide), (show (1 : Nat) ≤ 9223372036854775807 by decide), Nat.le_refl 1, Nat.le_refl 1, (show (1 : Nat) ≤ 9223372036854775807 by decide), (show (1 : Nat) ≤ 9223372036854775807 by decide), (show (1 : Nat) ≤ 9223372036854775807 by decide)⟩⟩
    · exact (kints_one w 700 _ rfl).below (below_alloc (below_alloc (below_alloc (Below.refl _ _) _) _) _)
    · exact (kints_one _ 1 _ (by simp)).below (below_alloc (below_alloc (Below.refl _ _) _) _)
    · exact (kints_one _ 50 _ (by simp)).below (below_alloc (Below.refl _ _) _)
    · exact kints_one _ 3 _ (by simp))
  go_enter Tryz.func10, Tryz.ntmps10
  go_wp2_with fail
  obtain ⟨W0, hW0⟩ : ∃ W, ((((w.alloc (.cells #[.int .i64 700] 3)).alloc (.cells #[.int .i64 1] 3)).alloc (.cells #[.int .i64 50] 3)).alloc (.cells #[.int .i64 3] 3)) = W := ⟨_, rfl⟩
  obtain ⟨hb0, hs0, hx0, hy0⟩ := H1.out W0 hW0
  rw [hW0]
  have HX := Lib.hid hx0
  have HY := Lib.hid hy0
  obtain ⟨W1, hW1⟩ : ∃ W, W0.alloc (.cells #[.slice (some ⟨w.heap.size, 0, none⟩) 1 1, .string ⟨#[97]⟩, .slice (some ⟨w.heap.size + 1, 0, none⟩) 1 1, .slice (some ⟨w.heap.size + 2, 0, none⟩) 1 1, .string ⟨#[98]⟩, .slice (some ⟨w.heap.size + 3, 0, none⟩) 1 1] 27) = W := ⟨_, rfl⟩
  have hb1 : Below W0.heap.size W0 W1 := by rw [← hW1]; exact below_alloc (Below.refl _ _) _
  have hs1 : W1.heap.size = w.heap.size + 5 := by rw [← hW1]; simp; omega
  have hrow : RowOf krC 3 W1 (some ⟨w.heap.size + 4, 0, none⟩) [⟨some ⟨w.heap.size, 0, none⟩, 1, [700], ⟨#[97]⟩, some ⟨w.heap.size + 1, 0, none⟩, 1, [1]⟩, ⟨some ⟨w.heap.size + 2, 0, none⟩, 1, [50], ⟨#[98]⟩, some ⟨w.heap.size + 3, 0, none⟩, 1, [3]⟩] := by
    rw [← hW1]
    exact Rd_new _ #[.slice (some ⟨w.heap.size, 0, none⟩) 1 1, .string ⟨#[97]⟩, .slice (some ⟨w.heap.size + 1, 0, none⟩) 1 1, .slice (some ⟨w.heap.size + 2, 0, none⟩) 1 1, .string ⟨#[98]⟩, .slice (some ⟨w.heap.size + 3, 0, none⟩) 1 1] 27 3 2 _ rfl (by omega)
  change Calls _ _ _ (((W0.alloc (.cells #[.slice (some ⟨w.heap.size, 0, none⟩) 1 1, .string ⟨#[97]⟩, .slice (some ⟨w.heap.size + 1, 0, none⟩) 1 1, .slice (some ⟨w.heap.size + 2, 0, none⟩) 1 1, .string ⟨#[98]⟩, .slice (some ⟨w.heap.size + 3, 0, none⟩) 1 1] 27)).alloc _).alloc _ |>.alloc _) _
  rw [hW1]
  have HB1 := Lib.hid (below_trans hb0 hb1)
  have HX1 := Lib.hid (HX.out.below hb1)
  have HY1 := Lib.hid (HY.out.below hb1)
  have HR1 := Lib.hid hrow
  clear hW0 hb0 hs0 hx0 hy0 HX HY hW1 hb1 hrow H1
  refine (htk _ _ _ _ ((kints_new W1 1 2 _ (by omega)).below (below_alloc (below_alloc (Below.refl _ _) _) _)) ((kints_new _ 0 1 _ (by simp; omega)).below (below_alloc (Below.refl _ _) _)) (kints_new _ 7 7 _ (by simp; omega))).mono ?_
  rintro e w2 ⟨TA, tc, rfl, htk, hb⟩
  have hb12 : Below W1.heap.size W1 w2 := below_trans (below_alloc (below_alloc (below_alloc (Below.refl _ _) _) _) _) hb
  have HB2 := Lib.hid (below_trans HB1.out hb12)
  have HX2 := Lib.hid (HX1.out.below hb12)
  have HY2 := Lib.hid (HY1.out.below hb12)
  have HR2 := Lib.hid (HR1.out.below hb12)
  have HTK := Lib.hid htk
  clear htk hb hb12 HX1 HY1 HR1 HB1 hs1
  go_wp2_with fail
  refine (hwins w2 (some ⟨w.heap.size + 4, 0, none⟩) TA tc _ _ (HT.out w2 HB2.out) HR2.out HX2.out HY2.out (by
    show (dvB [700] ⟨#[97]⟩ 2 2 [1] && wiB 0 0 ((([700] : List Int).length : Int) - 1)) = true
    decide +kernel) (by
    show (dvB [50] ⟨#[98]⟩ 2 2 [3] && wiB 0 0 ((([50] : List Int).length : Int) - 1)) = true
    decide +kernel) rfl rfl HTK.out).mono ?_
  rintro e w3 ⟨WA, wc, rfl, hwk, hb3⟩
  have HB3 := Lib.hid (below_trans HB2.out hb3)
  have HTK3 := Lib.hid (HTK.out.below hb3)
  have HWK := Lib.hid hwk
  clear hwk hb3
  go_wp2_with fail
  refine (hints TA (some ⟨w3.heap.size, 0, none⟩) tc 2 _ (HTK3.out.below (below_alloc (Below.refl _ _) _)) (kints_new w3 240 480 _ rfl)).mono ?_
  rintro e w4 ⟨rfl, hb4⟩
  have hb34 : Below w3.heap.size w3 w4 := below_trans (below_alloc (Below.refl _ _) _) hb4
  have HB4 := Lib.hid (below_trans HB3.out hb34)
  have HTK4 := Lib.hid (HTK3.out.below hb34)
  have HWK4 := Lib.hid (HWK.out.below hb34)
  clear hb4 hb34
  go_wp2_with fail
  refine (hints WA TA wc tc _ HWK4.out HTK4.out).mono ?_
  rintro e w5 ⟨rfl, hb5⟩
  have HB5 := Lib.hid (below_trans HB4.out hb5)
  clear hb5
  go_wp2
  go_ret
  exact ⟨rfl, HB5.out⟩
end

section
open Go.RowKit
def fwH (n0 : Nat) (kr : Kr) : Bool := fw30 kr.seeds kr.salt kr.random && (decide (kr.seeds.length ≤ 2) && decide (kr.seeds.length = n0))
theorem kr_agg {w : World} {b off : Nat} {x : Kr} (c0 : w.cell? ⟨b, off, none⟩ = some (.slice x.SA x.seeds.length x.sc)) : b < w.heap.size := lt_of_cell c0
set_option maxRecDepth 100000 in
set_option maxHeartbeats 64000000 in
theorem hon_walk (A : Option Addr) (c : Nat) (l : List Kr) (need i : Int) (which closed : Nat) (SA OA MA : Option Addr) (sc oc mc : Nat) (sh ow me : List Int) (w : World) (hT : Tabs w) (hA : RowOf krC 3 w A l) (hI : ∀ kr, kr ∈ l → KrIn w kr) (hlc : l.length ≤ c) (hl : l.length ≤ 9223372036854775807) (hwh : which < 256) (hcl : closed < 256) (hSA : Ints w SA sh) (hOA : Ints w OA ow) (hMA : Ints w MA me) (h1 : sh.length ≤ 9223372036854775807) (h2 : ow.length ≤ 9223372036854775807) (h3 : me.length ≤ 9223372036854775807) :
    Calls Tryz.prog 3 #[.slice A l.length c, .int .i64 need, .int .i64 i, .int .u8 which, .int .u8 closed, .slice SA sh.length sc, .slice OA ow.length oc, .slice MA me.length mc] w fun e w' => e = .returned (.bool true) ∧ Below w.heap.size w w' := by
  have HA : Hid (∀ W, Below w.heap.size w W → RowOf krC 3 W A l) := Lib.hid (fun W hW => hA.below hW)
  have HIN : Hid (∀ kr, kr ∈ l → ∀ W, Below w.heap.size w W → KrIn W kr) := Lib.hid (fun kr hk W hW => (hI kr hk).below hW)
  have HT : Hid (∀ W, Below w.heap.size w W → Tabs W) := Lib.hid (fun W hW => hT.below hW)
  have HTK : Hid (∀ W, Below w.heap.size w W → Calls Tryz.prog 13 #[.slice SA sh.length sc, .slice OA ow.length oc, .slice MA me.length mc] W fun e w' => ∃ v, e = .returned (.tuple #[v, .int .i64 (tkE sh ow me)]) ∧ w'.ownsRow W.heap.size 3 1 v (tkV sh ow me).length ((tkV sh ow me).map (Value.int .i64)) ∧ Below W.heap.size W w') := Lib.hid (fun W hW => ltickets_any SA OA MA sc oc mc sh ow me W (hSA.below hW) (hOA.below hW) (hMA.below hW) h1 h2 h3)
  have hHO := honest_any w hT
  have HHO := Lib.hid hHO
  clear hA hI hT hSA hOA hMA hHO
  go_enter Tryz.func3, Tryz.ntmps3
  go_wp2_with fail
  refine HHO.out.mono ?_
  rintro e w1 ⟨rfl, hb⟩
  have HB1 := Lib.hid hb
  clear hb HHO
  by_cases hl1 : l.length < 1
  case pos =>
    go_wp2
    go_ret
    exact ⟨rfl, HB1.out⟩
  by_cases hl3 : 3 < l.length
  case pos =>
    go_wp2
    go_ret
    exact ⟨rfl, HB1.out⟩
  by_cases ho10 : 10 < ow.length
  case pos =>
    go_wp2
    go_ret
    exact ⟨rfl, HB1.out⟩
  by_cases hs8 : 8 < sh.length
  case pos =>
    go_wp2
    go_ret
    exact ⟨rfl, HB1.out⟩
  obtain ⟨x0, hx0⟩ := get_some l 0 (by omega)
  have HX0 := Lib.hid hx0
  obtain ⟨n0, hn0⟩ : ∃ n, x0.seeds.length = n := ⟨_, rfl⟩
  have HN0 := Lib.hid hn0
  clear hx0 hn0
  go_wp2_with fail
  go_loopw [18, 19, 20, 21, 22] (fun u18 _ _ _ _ wr => ∃ k : Nat, k ≤ l.length ∧ u18 = .int .i64 k ∧ Below w.heap.size w wr ∧ (l.take k).all (fwH n0) = true ∧ (l.take k).all (okK l.length need i) = true) (fun u18 _ _ _ _ _ => l.length - (intOf u18).toNat)
  case atStart => exact ⟨0, Nat.zero_le _, rfl, HB1.out, rfl, rfl⟩
  case round =>
  obtain ⟨k, hk, rfl, hb, hall, hok⟩ := hrel
  have HBk := Lib.hid hb
  have HAL := Lib.hid hall
  have HOKS := Lib.hid hok
  clear hb hall hok HB1
  by_cases hlt : k < l.length
  case pos =>
    obtain ⟨x, hx⟩ := get_some l k hlt
    have HC : Hid (∀ W, Below w.heap.size w W → ∃ b off, A = some ⟨b, off, none⟩ ∧ W.cell? ⟨b, off + k * 3, none⟩ = some (.slice x.SA x.seeds.length x.sc) ∧ W.cell? ⟨b, off + k * 3 + 1, none⟩ = some (.string x.salt) ∧ W.cell? ⟨b, off + k * 3 + 2, none⟩ = some (.slice x.RA x.random.length x.rc) ∧ W.cell? ⟨b, off, none⟩ = some (.slice x0.SA n0 x0.sc) ∧ b < W.heap.size) := Lib.hid (fun W hW => by
      obtain ⟨b, off, he, c0, c1, c2⟩ := kr_cells (HA.out W hW) hx
      obtain ⟨b', off', he', d0, _, _⟩ := kr_cells (HA.out W hW) HX0.out
      rw [he] at he'
      injection he' with he'
      injection he' with e1 e2
      subst e1 e2
      rw [HN0.out] at d0
      exact ⟨b, off, he, c0, c1, c2, by simpa using d0, lt_of_cell c0⟩)
    obtain ⟨bA, oA, hAe, -, -, -, -, -⟩ := HC.out w (Below.refl _ _)
    subst hAe
    have HX := Lib.hid hx
    have h0l : 0 < l.length := by omega
    have h0i : (0 : Int) < (l.length : Int) := by omega
    have hki : (k : Int) < (l.length : Int) := by omega
    obtain ⟨bf, hbf⟩ : ∃ b, fw30 x.seeds x.salt x.random = b := ⟨_, rfl⟩
    have HF : Hid (∀ W, Calls Tryz.prog 11 #[.slice x.SA x.seeds.length x.sc, .string x.salt, .slice x.RA x.random.length x.rc] W fun e w' => e = .returned (.bool bf) ∧ W = w') := Lib.hid (fun W => by
      have := rfew30_any x.SA x.sc x.seeds x.salt x.RA x.rc x.random W
      rw [hbf] at this
      exact this)
    have HBF := Lib.hid hbf
    clear hx hbf
    cases bf
    case false =>
      go_wp2_with fail
      refine wp_region_belowC (by kernel_rfl) (by kernel_rfl) (fun WQ HQS HQN => ?_)
      refine HQS.go (fun K hK => ?_)
      go_simp
      apply Exists.intro
      refine ⟨fun W hW => ?_, hK _ ?_⟩
      · (try go_simp)
        exact rfl
      clear hK K
      refine HQS.go (fun K hK => ?_)
      go_simp
      apply Exists.intro
      refine ⟨fun W hW => ?_, hK _ ?_⟩
      · (try go_simp)
        exact rfl
      clear hK K
      refine HQS.go (fun K hK => ?_)
      go_simp
      apply Exists.intro
      refine ⟨fun W hW => ?_, hK _ ?_⟩
      · (try go_simp)
        exact rfl
      clear hK K
      refine HQS.go (fun K hK => ?_)
      go_simp
      apply Exists.intro
      refine ⟨fun W hW => ?_, hK _ ?_⟩
      · (try go_simp)
        exact rfl
      clear hK K
      refine HQS.go (fun K hK => ?_)
      go_simp
      apply Exists.intro
      refine ⟨fun W hW => ?_, hK _ ?_⟩
      · obtain ⟨b_, f_, he_, c0, c1, c2, d0, cl⟩ := HC.out W (below_trans HBk.out hW)
        cases he_
        go_simp
        exact rfl
      clear hK K
      refine HQS.go (fun K hK => ?_)
      go_simp
      apply Exists.intro
      refine ⟨fun W hW => ?_, hK _ ?_⟩
      · (try go_simp)
        exact rfl
      clear hK K
      refine HQS.go (fun K hK => ?_)
      go_simp
      apply Exists.intro
      refine ⟨fun W hW => ?_, hK _ ?_⟩
      · (try go_simp)
        exact rfl
      clear hK K
      refine HQS.go (fun K hK => ?_)
      go_simp
      apply Exists.intro
      refine ⟨fun W hW => ?_, hK _ ?_⟩
      · (try go_simp)
        exact rfl
      clear hK K
      refine HQS.go (fun K hK => ?_)
      go_simp
      apply Exists.intro
      refine ⟨fun W hW => ?_, hK _ ?_⟩
      · (try go_simp)
        exact rfl
      clear hK K
      refine HQS.go (fun K hK => ?_)
      go_simp
      apply Exists.intro
      refine ⟨fun W hW => ?_, hK _ ?_⟩
      · obtain ⟨b_, f_, he_, c0, c1, c2, d0, cl⟩ := HC.out W (below_trans HBk.out hW)
        cases he_
        go_simp
        exact rfl
      clear hK K
      refine HQS.go (fun K hK => ?_)
      go_simp
      apply Exists.intro
      refine ⟨fun W hW => ?_, hK _ ?_⟩
      · (try go_simp)
        exact rfl
      clear hK K
      refine HQS.go (fun K hK => ?_)
      go_simp
      apply Exists.intro
      refine ⟨fun W hW => ?_, hK _ ?_⟩
      · (try go_simp)
        exact rfl
      clear hK K
      refine HQS.go (fun K hK => ?_)
      go_simp
      apply Exists.intro
      refine ⟨fun W hW => ?_, hK _ ?_⟩
      · (try go_simp)
        exact rfl
      clear hK K
      refine HQS.go (fun K hK => ?_)
      go_simp
      apply Exists.intro
      refine ⟨fun W hW => ?_, hK _ ?_⟩
      · (try go_simp)
        exact rfl
      clear hK K
      refine HQS.go (fun K hK => ?_)
      go_simp
      apply Exists.intro
      refine ⟨fun W hW => ?_, hK _ ?_⟩
      · obtain ⟨b_, f_, he_, c0, c1, c2, d0, cl⟩ := HC.out W (below_trans HBk.out hW)
        cases he_
        go_simp
        exact rfl
      clear hK K
      refine HQS.go (fun K hK => ?_)
      go_simp
      apply Exists.intro
      refine ⟨fun W hW => ?_, hK _ ?_⟩
      · exact (HF.out W).mono fun _ _ ⟨he, hw⟩ => ⟨he, hw ▸ hW⟩
      clear hK K
      refine HQS.go (fun K hK => ?_)
      go_simp
      apply Exists.intro
      refine ⟨fun W hW => ?_, hK _ ?_⟩
      · (try go_simp)
        exact rfl
      clear hK K
      refine HQS.go (fun K hK => ?_)
      go_simp
      apply Exists.intro
      refine ⟨fun W hW => ?_, hK _ ?_⟩
      · (try go_simp)
        exact rfl
      clear hK K
      refine HQS.go (fun K hK => ?_)
      go_simp
      refine hK _ ?_
      clear hK K
      refine HQS.go (fun K hK => ?_)
      go_simp
      refine hK _ ?_
      clear hK K
      refine HQS.go (fun K hK => ?_)
      go_simp
      refine hK _ ?_
      clear hK K
      refine HQS.go (fun K hK => ?_)
      go_simp
      refine hK _ ?_
      clear hK K
      refine HQS.go (fun K hK => ?_)
      go_simp
      refine hK _ ?_
      clear hK K
      refine HQS.go (fun K hK => ?_)
      go_simp
      refine hK _ ?_
      clear hK K
      refine HQS.go (fun K hK => ?_)
      go_simp
      refine hK _ ?_
      clear hK K
      refine HQS.go (fun K hK => ?_)
      go_simp
      apply Exists.intro
      refine ⟨fun W hW => ?_, hK _ ?_⟩
      · (try go_simp)
        exact rfl
      clear hK K
      refine HQS.go (fun K hK => ?_)
      go_simp
      apply Exists.intro
      refine ⟨fun W hW => ?_, hK _ ?_⟩
      · (try go_simp)
        exact rfl
      clear hK K
      refine HQS.go (fun K hK => ?_)
      go_simp
      refine hK _ ?_
      clear hK K
      refine HQS.go (fun K hK => ?_)
      go_simp
      refine hK _ ?_
      clear hK K
      refine HQS.go (fun K hK => ?_)
      go_simp
      refine hK _ ?_
      clear hK K
      refine HQS.go (fun K hK => ?_)
      go_simp
      refine hK _ ?_
      clear hK K
      refine HQS.go (fun K hK => ?_)
      go_simp
      refine hK _ ?_
      clear hK K
      refine HQS.go (fun K hK => ?_)
      go_simp
      refine hK _ ?_
      clear hK K
      refine HQS.go (fun K hK => ?_)
      go_simp
      refine hK _ ?_
      clear hK K
      refine HQS.go (fun K hK => ?_)
      go_simp
      refine hK _ ?_
      clear hK K
      refine HQS.go (fun K hK => ?_)
      go_simp
      refine hK _ ?_
      clear hK K
      refine HQS.go (fun K hK => ?_)
      go_simp
      refine hK _ ?_
      clear hK K
      refine HQS.go (fun K hK => ?_)
      go_simp
      refine hK _ ?_
      clear hK K
      refine HQS.go (fun K hK => ?_)
      go_simp
      refine hK _ ?_
      clear hK K
      refine HQS.go (fun K hK => ?_)
      go_simp
      apply Exists.intro
      refine ⟨fun W hW => ?_, hK _ ?_⟩
      · (try go_simp)
        exact rfl
      clear hK K
      refine HQN.go ?_
      intro w1 hW
      have HB1 := Lib.hid (below_trans HBk.out hW)
      clear hW
      go_wp2
      go_ret
      exact ⟨rfl, HB1.out⟩
    case true =>
      by_cases hs2 : 2 < x.seeds.length
      case pos =>
        have hs2j : ¬ ((x.seeds.length : Int) ≤ 2) := by omega
        go_wp2_with fail
        refine wp_region_belowC (by kernel_rfl) (by kernel_rfl) (fun WQ HQS HQN => ?_)
        refine HQS.go (fun K hK => ?_)
        go_simp
        apply Exists.intro
        refine ⟨fun W hW => ?_, hK _ ?_⟩
        · (try go_simp)
          exact rfl
        clear hK K
        refine HQS.go (fun K hK => ?_)
        go_simp
        apply Exists.intro
        refine ⟨fun W hW => ?_, hK _ ?_⟩
        · (try go_simp)
          exact rfl
        clear hK K
        refine HQS.go (fun K hK => ?_)
        go_simp
        apply Exists.intro
        refine ⟨fun W hW => ?_, hK _ ?_⟩
        · (try go_simp)
          exact rfl
        clear hK K
        refine HQS.go (fun K hK => ?_)
        go_simp
        apply Exists.intro
        refine ⟨fun W hW => ?_, hK _ ?_⟩
        · (try go_simp)
          exact rfl
        clear hK K
        refine HQS.go (fun K hK => ?_)
        go_simp
        apply Exists.intro
        refine ⟨fun W hW => ?_, hK _ ?_⟩
        · obtain ⟨b_, f_, he_, c0, c1, c2, d0, cl⟩ := HC.out W (below_trans HBk.out hW)
          cases he_
          go_simp
          exact rfl
        clear hK K
        refine HQS.go (fun K hK => ?_)
        go_simp
        apply Exists.intro
        refine ⟨fun W hW => ?_, hK _ ?_⟩
        · (try go_simp)
          exact rfl
        clear hK K
        refine HQS.go (fun K hK => ?_)
        go_simp
        apply Exists.intro
        refine ⟨fun W hW => ?_, hK _ ?_⟩
        · (try go_simp)
          exact rfl
        clear hK K
        refine HQS.go (fun K hK => ?_)
        go_simp
        apply Exists.intro
        refine ⟨fun W hW => ?_, hK _ ?_⟩
        · (try go_simp)
          exact rfl
        clear hK K
        refine HQS.go (fun K hK => ?_)
        go_simp
        apply Exists.intro
        refine ⟨fun W hW => ?_, hK _ ?_⟩
        · (try go_simp)
          exact rfl
        clear hK K
        refine HQS.go (fun K hK => ?_)
        go_simp
        apply Exists.intro
        refine ⟨fun W hW => ?_, hK _ ?_⟩
        · obtain ⟨b_, f_, he_, c0, c1, c2, d0, cl⟩ := HC.out W (below_trans HBk.out hW)
          cases he_
          go_simp
          exact rfl
        clear hK K
        refine HQS.go (fun K hK => ?_)
        go_simp
        apply Exists.intro
        refine ⟨fun W hW => ?_, hK _ ?_⟩
        · (try go_simp)
          exact rfl
        clear hK K
        refine HQS.go (fun K hK => ?_)
        go_simp
        apply Exists.intro
        refine ⟨fun W hW => ?_, hK _ ?_⟩
        · (try go_simp)
          exact rfl
        clear hK K
        refine HQS.go (fun K hK => ?_)
        go_simp
        apply Exists.intro
        refine ⟨fun W hW => ?_, hK _ ?_⟩
        · (try go_simp)
          exact rfl
        clear hK K
        refine HQS.go (fun K hK => ?_)
        go_simp
        apply Exists.intro
        refine ⟨fun W hW => ?_, hK _ ?_⟩
        · (try go_simp)
          exact rfl
        clear hK K
        refine HQS.go (fun K hK => ?_)
        go_simp
        apply Exists.intro
        refine ⟨fun W hW => ?_, hK _ ?_⟩
        · obtain ⟨b_, f_, he_, c0, c1, c2, d0, cl⟩ := HC.out W (below_trans HBk.out hW)
          cases he_
          go_simp
          exact rfl
        clear hK K
        refine HQS.go (fun K hK => ?_)
        go_simp
        apply Exists.intro
        refine ⟨fun W hW => ?_, hK _ ?_⟩
        · exact (HF.out W).mono fun _ _ ⟨he, hw⟩ => ⟨he, hw ▸ hW⟩
        clear hK K
        refine HQS.go (fun K hK => ?_)
        go_simp
        apply Exists.intro
        refine ⟨fun W hW => ?_, hK _ ?_⟩
        · (try go_simp)
          exact rfl
        clear hK K
        refine HQS.go (fun K hK => ?_)
        go_simp
        apply Exists.intro
        refine ⟨fun W hW => ?_, hK _ ?_⟩
        · (try go_simp)
          exact rfl
        clear hK K
        refine HQS.go (fun K hK => ?_)
        go_simp
        apply Exists.intro
        refine ⟨fun W hW => ?_, hK _ ?_⟩
        · (try go_simp)
          exact rfl
        clear hK K
        refine HQS.go (fun K hK => ?_)
        go_simp
        apply Exists.intro
        refine ⟨fun W hW => ?_, hK _ ?_⟩
        · (try go_simp)
          exact rfl
        clear hK K
        refine HQS.go (fun K hK => ?_)
        go_simp
        apply Exists.intro
        refine ⟨fun W hW => ?_, hK _ ?_⟩
        · (try go_simp)
          exact rfl
        clear hK K
        refine HQS.go (fun K hK => ?_)
        go_simp
        apply Exists.intro
        refine ⟨fun W hW => ?_, hK _ ?_⟩
        · (try go_simp)
          exact rfl
        clear hK K
        refine HQS.go (fun K hK => ?_)
        go_simp
        apply Exists.intro
        refine ⟨fun W hW => ?_, hK _ ?_⟩
        · obtain ⟨b_, f_, he_, c0, c1, c2, d0, cl⟩ := HC.out W (below_trans HBk.out hW)
          cases he_
          go_simp
          exact rfl
        clear hK K
        refine HQS.go (fun K hK => ?_)
        go_simp
        apply Exists.intro
        refine ⟨fun W hW => ?_, hK _ ?_⟩
        · (try go_simp)
          exact rfl
        clear hK K
        refine HQS.go (fun K hK => ?_)
        go_simp
        apply Exists.intro
        refine ⟨fun W hW => ?_, hK _ ?_⟩
        · (try go_simp)
          exact rfl
        clear hK K
        refine HQS.go (fun K hK => ?_)
        go_simp
        apply Exists.intro
        refine ⟨fun W hW => ?_, hK _ ?_⟩
        · (try go_simp)
          exact rfl
        clear hK K
        refine HQS.go (fun K hK => ?_)
        go_simp
        apply Exists.intro
        refine ⟨fun W hW => ?_, hK _ ?_⟩
        · (try go_simp)
          exact rfl
        clear hK K
        refine HQS.go (fun K hK => ?_)
        go_simp
        refine hK _ ?_
        clear hK K
        refine HQS.go (fun K hK => ?_)
        go_simp
        refine hK _ ?_
        clear hK K
        refine HQS.go (fun K hK => ?_)
        go_simp
        refine hK _ ?_
        clear hK K
        refine HQS.go (fun K hK => ?_)
        go_simp
        refine hK _ ?_
        clear hK K
        refine HQS.go (fun K hK => ?_)
        go_simp
        refine hK _ ?_
        clear hK K
        refine HQS.go (fun K hK => ?_)
        go_simp
        refine hK _ ?_
        clear hK K
        refine HQS.go (fun K hK => ?_)
        go_simp
        refine hK _ ?_
        clear hK K
        refine HQS.go (fun K hK => ?_)
        go_simp
        refine hK _ ?_
        clear hK K
        refine HQS.go (fun K hK => ?_)
        go_simp
        refine hK _ ?_
        clear hK K
        refine HQS.go (fun K hK => ?_)
        go_simp
        refine hK _ ?_
        clear hK K
        refine HQS.go (fun K hK => ?_)
        go_simp
        refine hK _ ?_
        clear hK K
        refine HQS.go (fun K hK => ?_)
        go_simp
        refine hK _ ?_
        clear hK K
        refine HQS.go (fun K hK => ?_)
        go_simp
        apply Exists.intro
        refine ⟨fun W hW => ?_, hK _ ?_⟩
        · (try go_simp)
          exact rfl
        clear hK K
        refine HQN.go ?_
        intro w1 hW
        have HB1 := Lib.hid (below_trans HBk.out hW)
        clear hW
        go_wp2
        go_ret
        exact ⟨rfl, HB1.out⟩
      case neg =>
        have hs2j : (x.seeds.length : Int) ≤ 2 := by omega
        by_cases hse : x.seeds.length = n0
        case neg =>
          have d1 : ((x.seeds.length : Int) == (n0 : Int)) = false := by simp; omega
          have d2 : ((x.seeds.length : Int) != (n0 : Int)) = true := by simp; omega
          clear hse
          go_wp2_with fail
          refine wp_region_belowC (by kernel_rfl) (by kernel_rfl) (fun WQ HQS HQN => ?_)
          refine HQS.go (fun K hK => ?_)
          go_simp
          apply Exists.intro
          refine ⟨fun W hW => ?_, hK _ ?_⟩
          · (try go_simp)
            exact rfl
          clear hK K
          refine HQS.go (fun K hK => ?_)
          go_simp
          apply Exists.intro
          refine ⟨fun W hW => ?_, hK _ ?_⟩
          · (try go_simp)
            exact rfl
          clear hK K
          refine HQS.go (fun K hK => ?_)
          go_simp
          apply Exists.intro
          refine ⟨fun W hW => ?_, hK _ ?_⟩
          · (try go_simp)
            exact rfl
          clear hK K
          refine HQS.go (fun K hK => ?_)
          go_simp
          apply Exists.intro
          refine ⟨fun W hW => ?_, hK _ ?_⟩
          · (try go_simp)
            exact rfl
          clear hK K
          refine HQS.go (fun K hK => ?_)
          go_simp
          apply Exists.intro
          refine ⟨fun W hW => ?_, hK _ ?_⟩
          · obtain ⟨b_, f_, he_, c0, c1, c2, d0, cl⟩ := HC.out W (below_trans HBk.out hW)
            cases he_
            go_simp
            exact rfl
          clear hK K
          refine HQS.go (fun K hK => ?_)
          go_simp
          apply Exists.intro
          refine ⟨fun W hW => ?_, hK _ ?_⟩
          · (try go_simp)
            exact rfl
          clear hK K
          refine HQS.go (fun K hK => ?_)
          go_simp
          apply Exists.intro
          refine ⟨fun W hW => ?_, hK _ ?_⟩
          · (try go_simp)
            exact rfl
          clear hK K
          refine HQS.go (fun K hK => ?_)
          go_simp
          apply Exists.intro
          refine ⟨fun W hW => ?_, hK _ ?_⟩
          · (try go_simp)
            exact rfl
          clear hK K
          refine HQS.go (fun K hK => ?_)
          go_simp
          apply Exists.intro
          refine ⟨fun W hW => ?_, hK _ ?_⟩
          · (try go_simp)
            exact rfl
          clear hK K
          refine HQS.go (fun K hK => ?_)
          go_simp
          apply Exists.intro
          refine ⟨fun W hW => ?_, hK _ ?_⟩
          · obtain ⟨b_, f_, he_, c0, c1, c2, d0, cl⟩ := HC.out W (below_trans HBk.out hW)
            cases he_
            go_simp
            exact rfl
          clear hK K
          refine HQS.go (fun K hK => ?_)
          go_simp
          apply Exists.intro
          refine ⟨fun W hW => ?_, hK _ ?_⟩
          · (try go_simp)
            exact rfl
          clear hK K
          refine HQS.go (fun K hK => ?_)
          go_simp
          apply Exists.intro
          refine ⟨fun W hW => ?_, hK _ ?_⟩
          · (try go_simp)
            exact rfl
          clear hK K
          refine HQS.go (fun K hK => ?_)
          go_simp
          apply Exists.intro
          refine ⟨fun W hW => ?_, hK _ ?_⟩
          · (try go_simp)
            exact rfl
          clear hK K
          refine HQS.go (fun K hK => ?_)
          go_simp
          apply Exists.intro
          refine ⟨fun W hW => ?_, hK _ ?_⟩
          · (try go_simp)
            exact rfl
          clear hK K
          refine HQS.go (fun K hK => ?_)
          go_simp
          apply Exists.intro
          refine ⟨fun W hW => ?_, hK _ ?_⟩
          · obtain ⟨b_, f_, he_, c0, c1, c2, d0, cl⟩ := HC.out W (below_trans HBk.out hW)
            cases he_
            go_simp
            exact rfl
          clear hK K
          refine HQS.go (fun K hK => ?_)
          go_simp
          apply Exists.intro
          refine ⟨fun W hW => ?_, hK _ ?_⟩
          · exact (HF.out W).mono fun _ _ ⟨he, hw⟩ => ⟨he, hw ▸ hW⟩
          clear hK K
          refine HQS.go (fun K hK => ?_)
          go_simp
          apply Exists.intro
          refine ⟨fun W hW => ?_, hK _ ?_⟩
          · (try go_simp)
            exact rfl
          clear hK K
          refine HQS.go (fun K hK => ?_)
          go_simp
          apply Exists.intro
          refine ⟨fun W hW => ?_, hK _ ?_⟩
          · (try go_simp)
            exact rfl
          clear hK K
          refine HQS.go (fun K hK => ?_)
          go_simp
          apply Exists.intro
          refine ⟨fun W hW => ?_, hK _ ?_⟩
          · (try go_simp)
            exact rfl
          clear hK K
          refine HQS.go (fun K hK => ?_)
          go_simp
          apply Exists.intro
          refine ⟨fun W hW => ?_, hK _ ?_⟩
          · (try go_simp)
            exact rfl
          clear hK K
          refine HQS.go (fun K hK => ?_)
          go_simp
          apply Exists.intro
          refine ⟨fun W hW => ?_, hK _ ?_⟩
          · (try go_simp)
            exact rfl
          clear hK K
          refine HQS.go (fun K hK => ?_)
          go_simp
          apply Exists.intro
          refine ⟨fun W hW => ?_, hK _ ?_⟩
          · (try go_simp)
            exact rfl
          clear hK K
          refine HQS.go (fun K hK => ?_)
          go_simp
          apply Exists.intro
          refine ⟨fun W hW => ?_, hK _ ?_⟩
          · obtain ⟨b_, f_, he_, c0, c1, c2, d0, cl⟩ := HC.out W (below_trans HBk.out hW)
            cases he_
            go_simp
            exact rfl
          clear hK K
          refine HQS.go (fun K hK => ?_)
          go_simp
          apply Exists.intro
          refine ⟨fun W hW => ?_, hK _ ?_⟩
          · (try go_simp)
            exact rfl
          clear hK K
          refine HQS.go (fun K hK => ?_)
          go_simp
          apply Exists.intro
          refine ⟨fun W hW => ?_, hK _ ?_⟩
          · (try go_simp)
            exact rfl
          clear hK K
          refine HQS.go (fun K hK => ?_)
          go_simp
          apply Exists.intro
          refine ⟨fun W hW => ?_, hK _ ?_⟩
          · (try go_simp)
            exact rfl
          clear hK K
          refine HQS.go (fun K hK => ?_)
          go_simp
          apply Exists.intro
          refine ⟨fun W hW => ?_, hK _ ?_⟩
          · (try go_simp)
            exact rfl
          clear hK K
          refine HQS.go (fun K hK => ?_)
          go_simp
          apply Exists.intro
          refine ⟨fun W hW => ?_, hK _ ?_⟩
          · (try go_simp)
            exact rfl
          clear hK K
          refine HQS.go (fun K hK => ?_)
          go_simp
          apply Exists.intro
          refine ⟨fun W hW => ?_, hK _ ?_⟩
          · (try go_simp)
            exact rfl
          clear hK K
          refine HQS.go (fun K hK => ?_)
          go_simp
          apply Exists.intro
          refine ⟨fun W hW => ?_, hK _ ?_⟩
          · (try go_simp)
            exact rfl
          clear hK K
          refine HQS.go (fun K hK => ?_)
          go_simp
          apply Exists.intro
          refine ⟨fun W hW => ?_, hK _ ?_⟩
          · (try go_simp)
            exact rfl
          clear hK K
          refine HQS.go (fun K hK => ?_)
          go_simp
          apply Exists.intro
          refine ⟨fun W hW => ?_, hK _ ?_⟩
          · obtain ⟨b_, f_, he_, c0, c1, c2, d0, cl⟩ := HC.out W (below_trans HBk.out hW)
            cases he_
            go_simp
            exact rfl
          clear hK K
          refine HQS.go (fun K hK => ?_)
          go_simp
          apply Exists.intro
          refine ⟨fun W hW => ?_, hK _ ?_⟩
          · (try go_simp)
            exact rfl
          clear hK K
          refine HQS.go (fun K hK => ?_)
          go_simp
          apply Exists.intro
          refine ⟨fun W hW => ?_, hK _ ?_⟩
          · (try go_simp)
            exact rfl
          clear hK K
          refine HQS.go (fun K hK => ?_)
          go_simp
          apply Exists.intro
          refine ⟨fun W hW => ?_, hK _ ?_⟩
          · (try go_simp)
            exact rfl
          clear hK K
          refine HQS.go (fun K hK => ?_)
          go_simp
          apply Exists.intro
          refine ⟨fun W hW => ?_, hK _ ?_⟩
          · (try go_simp)
            exact rfl
          clear hK K
          refine HQS.go (fun K hK => ?_)
          go_simp
          apply Exists.intro
          refine ⟨fun W hW => ?_, hK _ ?_⟩
          · obtain ⟨b_, f_, he_, c0, c1, c2, d0, cl⟩ := HC.out W (below_trans HBk.out hW)
            cases he_
            go_simp
            exact rfl
          clear hK K
          refine HQS.go (fun K hK => ?_)
          go_simp
          apply Exists.intro
          refine ⟨fun W hW => ?_, hK _ ?_⟩
          · (try go_simp)
            exact rfl
          clear hK K
          refine HQS.go (fun K hK => ?_)
          go_simp
          apply Exists.intro
          refine ⟨fun W hW => ?_, hK _ ?_⟩
          · (try go_simp)
            exact rfl
          clear hK K
          refine HQS.go (fun K hK => ?_)
          go_simp
          apply Exists.intro
          refine ⟨fun W hW => ?_, hK _ ?_⟩
          · (try go_simp)
            exact rfl
          clear hK K
          refine HQN.go ?_
          intro w1 hW
          have HB1 := Lib.hid (below_trans HBk.out hW)
          clear hW
          go_wp2
          go_ret
          exact ⟨rfl, HB1.out⟩
        case pos =>
          have hgo : (l.take (k + 1)).all (fwH n0) = true := by rw [all_take_succ (fwH n0) l k x HX.out, HAL.out, fwH, HBF.out, decide_eq_true hse, decide_eq_true (by omega)]; rfl
          have HGO := Lib.hid hgo
          have d1 : ((x.seeds.length : Int) == (n0 : Int)) = true := by simp; omega
          have d2 : ((x.seeds.length : Int) != (n0 : Int)) = false := by simp; omega
          clear hse hgo
          go_wp2_with fail
          refine wp_region_belowC (by kernel_rfl) (by kernel_rfl) (fun WQ HQS HQN => ?_)
          refine HQS.go (fun K hK => ?_)
          go_simp
          apply Exists.intro
          refine ⟨fun W hW => ?_, hK _ ?_⟩
          · (try go_simp)
            exact rfl
          clear hK K
          refine HQS.go (fun K hK => ?_)
          go_simp
          apply Exists.intro
          refine ⟨fun W hW => ?_, hK _ ?_⟩
          · (try go_simp)
            exact rfl
          clear hK K
          refine HQS.go (fun K hK => ?_)
          go_simp
          apply Exists.intro
          refine ⟨fun W hW => ?_, hK _ ?_⟩
          · (try go_simp)
            exact rfl
          clear hK K
          refine HQS.go (fun K hK => ?_)
          go_simp
          apply Exists.intro
          refine ⟨fun W hW => ?_, hK _ ?_⟩
          · (try go_simp)
            exact rfl
          clear hK K
          refine HQS.go (fun K hK => ?_)
          go_simp
          apply Exists.intro
          refine ⟨fun W hW => ?_, hK _ ?_⟩
          · obtain ⟨b_, f_, he_, c0, c1, c2, d0, cl⟩ := HC.out W (below_trans HBk.out hW)
            cases he_
            go_simp
            exact rfl
          clear hK K
          refine HQS.go (fun K hK => ?_)
          go_simp
          apply Exists.intro
          refine ⟨fun W hW => ?_, hK _ ?_⟩
          · (try go_simp)
            exact rfl
          clear hK K
          refine HQS.go (fun K hK => ?_)
          go_simp
          apply Exists.intro
          refine ⟨fun W hW => ?_, hK _ ?_⟩
          · (try go_simp)
            exact rfl
          clear hK K
          refine HQS.go (fun K hK => ?_)
          go_simp
          apply Exists.intro
          refine ⟨fun W hW => ?_, hK _ ?_⟩
          · (try go_simp)
            exact rfl
          clear hK K
          refine HQS.go (fun K hK => ?_)
          go_simp
          apply Exists.intro
          refine ⟨fun W hW => ?_, hK _ ?_⟩
          · (try go_simp)
            exact rfl
          clear hK K
          refine HQS.go (fun K hK => ?_)
          go_simp
          apply Exists.intro
          refine ⟨fun W hW => ?_, hK _ ?_⟩
          · obtain ⟨b_, f_, he_, c0, c1, c2, d0, cl⟩ := HC.out W (below_trans HBk.out hW)
            cases he_
            go_simp
            exact rfl
          clear hK K
          refine HQS.go (fun K hK => ?_)
          go_simp
          apply Exists.intro
          refine ⟨fun W hW => ?_, hK _ ?_⟩
          · (try go_simp)
            exact rfl
          clear hK K
          refine HQS.go (fun K hK => ?_)
          go_simp
          apply Exists.intro
          refine ⟨fun W hW => ?_, hK _ ?_⟩
          · (try go_simp)
            exact rfl
          clear hK K
          refine HQS.go (fun K hK => ?_)
          go_simp
          apply Exists.intro
          refine ⟨fun W hW => ?_, hK _ ?_⟩
          · (try go_simp)
            exact rfl
          clear hK K
          refine HQS.go (fun K hK => ?_)
          go_simp
          apply Exists.intro
          refine ⟨fun W hW => ?_, hK _ ?_⟩
          · (try go_simp)
            exact rfl
          clear hK K
          refine HQS.go (fun K hK => ?_)
          go_simp
          apply Exists.intro
          refine ⟨fun W hW => ?_, hK _ ?_⟩
          · obtain ⟨b_, f_, he_, c0, c1, c2, d0, cl⟩ := HC.out W (below_trans HBk.out hW)
            cases he_
            go_simp
            exact rfl
          clear hK K
          refine HQS.go (fun K hK => ?_)
          go_simp
          apply Exists.intro
          refine ⟨fun W hW => ?_, hK _ ?_⟩
          · exact (HF.out W).mono fun _ _ ⟨he, hw⟩ => ⟨he, hw ▸ hW⟩
          clear hK K
          refine HQS.go (fun K hK => ?_)
          go_simp
          apply Exists.intro
          refine ⟨fun W hW => ?_, hK _ ?_⟩
          · (try go_simp)
            exact rfl
          clear hK K
          refine HQS.go (fun K hK => ?_)
          go_simp
          apply Exists.intro
          refine ⟨fun W hW => ?_, hK _ ?_⟩
          · (try go_simp)
            exact rfl
          clear hK K
          refine HQS.go (fun K hK => ?_)
          go_simp
          apply Exists.intro
          refine ⟨fun W hW => ?_, hK _ ?_⟩
          · (try go_simp)
            exact rfl
          clear hK K
          refine HQS.go (fun K hK => ?_)
          go_simp
          apply Exists.intro
          refine ⟨fun W hW => ?_, hK _ ?_⟩
          · (try go_simp)
            exact rfl
          clear hK K
          refine HQS.go (fun K hK => ?_)
          go_simp
          apply Exists.intro
          refine ⟨fun W hW => ?_, hK _ ?_⟩
          · (try go_simp)
            exact rfl
          clear hK K
          refine HQS.go (fun K hK => ?_)
          go_simp
          apply Exists.intro
          refine ⟨fun W hW => ?_, hK _ ?_⟩
          · (try go_simp)
            exact rfl
          clear hK K
          refine HQS.go (fun K hK => ?_)
          go_simp
          apply Exists.intro
          refine ⟨fun W hW => ?_, hK _ ?_⟩
          · obtain ⟨b_, f_, he_, c0, c1, c2, d0, cl⟩ := HC.out W (below_trans HBk.out hW)
            cases he_
            go_simp
            exact rfl
          clear hK K
          refine HQS.go (fun K hK => ?_)
          go_simp
          apply Exists.intro
          refine ⟨fun W hW => ?_, hK _ ?_⟩
          · (try go_simp)
            exact rfl
          clear hK K
          refine HQS.go (fun K hK => ?_)
          go_simp
          apply Exists.intro
          refine ⟨fun W hW => ?_, hK _ ?_⟩
          · (try go_simp)
            exact rfl
          clear hK K
          refine HQS.go (fun K hK => ?_)
          go_simp
          apply Exists.intro
          refine ⟨fun W hW => ?_, hK _ ?_⟩
          · (try go_simp)
            exact rfl
          clear hK K
          refine HQS.go (fun K hK => ?_)
          go_simp
          apply Exists.intro
          refine ⟨fun W hW => ?_, hK _ ?_⟩
          · (try go_simp)
            exact rfl
          clear hK K
          refine HQS.go (fun K hK => ?_)
          go_simp
          apply Exists.intro
          refine ⟨fun W hW => ?_, hK _ ?_⟩
          · (try go_simp)
            exact rfl
          clear hK K
          refine HQS.go (fun K hK => ?_)
          go_simp
          apply Exists.intro
          refine ⟨fun W hW => ?_, hK _ ?_⟩
          · (try go_simp)
            exact rfl
          clear hK K
          refine HQS.go (fun K hK => ?_)
          go_simp
          apply Exists.intro
          refine ⟨fun W hW => ?_, hK _ ?_⟩
          · (try go_simp)
            exact rfl
          clear hK K
          refine HQS.go (fun K hK => ?_)
          go_simp
          apply Exists.intro
          refine ⟨fun W hW => ?_, hK _ ?_⟩
          · (try go_simp)
            exact rfl
          clear hK K
          refine HQS.go (fun K hK => ?_)
          go_simp
          apply Exists.intro
          refine ⟨fun W hW => ?_, hK _ ?_⟩
          · obtain ⟨b_, f_, he_, c0, c1, c2, d0, cl⟩ := HC.out W (below_trans HBk.out hW)
            cases he_
            go_simp
            exact rfl
          clear hK K
          refine HQS.go (fun K hK => ?_)
          go_simp
          apply Exists.intro
          refine ⟨fun W hW => ?_, hK _ ?_⟩
          · (try go_simp)
            exact rfl
          clear hK K
          refine HQS.go (fun K hK => ?_)
          go_simp
          apply Exists.intro
          refine ⟨fun W hW => ?_, hK _ ?_⟩
          · (try go_simp)
            exact rfl
          clear hK K
          refine HQS.go (fun K hK => ?_)
          go_simp
          apply Exists.intro
          refine ⟨fun W hW => ?_, hK _ ?_⟩
          · (try go_simp)
            exact rfl
          clear hK K
          refine HQS.go (fun K hK => ?_)
          go_simp
          apply Exists.intro
          refine ⟨fun W hW => ?_, hK _ ?_⟩
          · (try go_simp)
            exact rfl
          clear hK K
          refine HQS.go (fun K hK => ?_)
          go_simp
          apply Exists.intro
          refine ⟨fun W hW => ?_, hK _ ?_⟩
          · obtain ⟨b_, f_, he_, c0, c1, c2, d0, cl⟩ := HC.out W (below_trans HBk.out hW)
            cases he_
            go_simp
            exact rfl
          clear hK K
          refine HQS.go (fun K hK => ?_)
          go_simp
          apply Exists.intro
          refine ⟨fun W hW => ?_, hK _ ?_⟩
          · (try go_simp)
            exact rfl
          clear hK K
          refine HQS.go (fun K hK => ?_)
          go_simp
          apply Exists.intro
          refine ⟨fun W hW => ?_, hK _ ?_⟩
          · (try go_simp)
            exact rfl
          clear hK K
          refine HQS.go (fun K hK => ?_)
          go_simp
          apply Exists.intro
          refine ⟨fun W hW => ?_, hK _ ?_⟩
          · (try go_simp)
            exact rfl
          clear hK K
          refine HQN.go ?_
          intro w1 hW
          have HB1 := Lib.hid (below_trans HBk.out hW)
          clear hW d1 d2
          have hcall := w11open_any x need i l.length w1 (HIN.out x (List.mem_of_getElem? HX.out) w1 HB1.out) (by omega) (by omega) (HT.out w1 HB1.out)
          have HCALL := Lib.hid hcall
          clear hcall
          obtain ⟨b_, f_, he_, q0, q1, q2, -, ql⟩ := HC.out w1 HB1.out
          cases he_
          go_wp2_with fail
          clear q0 q1 q2 ql
          refine HCALL.out.mono ?_
          rintro e w2 ⟨hb, cm, o, KA, kn, kc, rfl, -⟩
          have HB2 := Lib.hid (below_trans HB1.out hb)
          obtain ⟨bo, hbo⟩ : ∃ b, okK l.length need i x = b := ⟨_, rfl⟩
          rw [hbo]
          have HBO := Lib.hid hbo
          clear hb hbo HCALL
          have HB4 : Hid (∀ o1 o2, Below w.heap.size w ((w2.alloc o1).alloc o2)) := Lib.hid (fun o1 o2 => below_trans HB2.out (below_alloc (below_alloc (Below.refl _ _) _) _))
          cases bo
          case false =>
            go_wp2
            go_ret
            exact ⟨rfl, HB4.out _ _⟩
          case true =>
            have hgo : (l.take (k + 1)).all (okK l.length need i) = true := by rw [all_take_succ (okK l.length need i) l k x HX.out, HOKS.out, HBO.out]; rfl
            have HGO2 := Lib.hid hgo
            clear hgo
            go_wp2
            go_roundw
            case rel => exact ⟨k + 1, by omega, by go_num, HB4.out _ _, HGO.out, HGO2.out⟩
            case measure => simp [intOf]; omega
  case neg =>
  obtain rfl : k = l.length := by omega
  have hal := HAL.out
  have hok := HOKS.out
  rw [List.take_of_length_le (Nat.le_refl _)] at hal hok
  have HFW := Lib.hid hal
  have HOK := Lib.hid hok
  clear hal hok HAL HOKS
  obtain ⟨ii, rfl⟩ : ∃ n : Nat, i = (n : Int) := by
    obtain ⟨-, -, -, -, h, -⟩ := okK_seed (List.all_eq_true.1 HOK.out x0 (List.mem_of_getElem? HX0.out))
    exact ⟨i.toNat, h.symm⟩
  obtain ⟨tl, htl⟩ : ∃ t, tkV sh ow me = t := ⟨_, rfl⟩
  obtain ⟨te, hte⟩ : ∃ t, tkE sh ow me = t := ⟨_, rfl⟩
  rw [htl, hte] at HTK
  have HLB : Hid (te = 0 → 1 ≤ tl.length → listB tl = true) := Lib.hid (fun h0 h1 => by
    by_cases hv : lvalB sh ow me = true
    · have e : tl = tkts sh ow me := by rw [← htl, tkV, if_pos hv]
      rw [e] at h1 ⊢
      refine tkts_list hv ?_
      unfold tkts at h1
      simpa using h1
    · rw [← hte, tkE, if_neg hv] at h0
      cases h0)
  have HTE : Hid (te = 0 ∨ te = 1) := Lib.hid (by rw [← hte, tkE]; split <;> simp)
  clear htl hte
  go_wp2_with fail
  refine (HTK.out wr HBk.out).mono ?_
  rintro e w2 ⟨v, rfl, hown, hb⟩
  obtain ⟨TA, tc, rfl, htc, htm, htk⟩ := own_ints hown
  have HB2 := Lib.hid (below_trans HBk.out hb)
  have HTK2 := Lib.hid htk
  clear hown hb htk HTK
  rcases HTE.out with rfl | rfl
  case inr =>
    go_wp2
    go_ret
    exact ⟨rfl, HB2.out⟩
  by_cases ht0 : tl.length = 0
  case pos =>
    obtain rfl : tl = [] := List.eq_nil_of_length_eq_zero ht0
    clear ht0
    go_wp2
    go_ret
    exact ⟨rfl, HB2.out⟩
  have hlb := HLB.out rfl (by omega)
  have HLB2 := Lib.hid hlb
  clear hlb HLB
  obtain ⟨kk, hkk⟩ : ∃ q, which % l.length = q := ⟨_, rfl⟩
  have hkl : kk < l.length := by rw [← hkk]; exact Nat.mod_lt _ (by omega)
  have hkc : (which : Int) % (l.length : Int) = (kk : Int) := by rw [← hkk]; exact (Int.natCast_emod _ _).symm
  clear hkk
  have hcall := w11wins_any A c l need ii kk closed TA tc tl w2 (HT.out w2 HB2.out) (HA.out w2 HB2.out) (fun kr hk => HIN.out kr hk w2 HB2.out) hlc (by omega) (by omega) HOK.out n0 (fun kr hk => by
    have h := List.all_eq_true.1 HFW.out kr hk
    unfold fwH at h
    rw [Bool.and_eq_true, Bool.and_eq_true] at h
    exact of_decide_eq_true h.2.2) (by
    have h := List.all_eq_true.1 HFW.out x0 (List.mem_of_getElem? HX0.out)
    unfold fwH at h
    rw [Bool.and_eq_true, Bool.and_eq_true] at h
    have h2 := of_decide_eq_true h.2.1
    rw [← HN0.out]; exact h2) hkl hcl HTK2.out HLB2.out
  have HCALL := Lib.hid hcall
  clear hcall
  have htl0 : 0 < tl.length := by omega
  clear ht0
  go_wp2_with fail
  refine HCALL.out.mono ?_
  rintro e w3 ⟨WA, wc, rfl, hwk, hb3⟩
  have HB3 := Lib.hid (below_trans HB2.out hb3)
  have hin := rints_any WA TA wc tc tl tl w3 hwk (HTK2.out.below hb3) (by have := (listB_of HLB2.out).1.2; omega) (by have := (listB_of HLB2.out).1.2; omega)
  rw [decide_eq_true rfl] at hin
  have HIN3 := Lib.hid hin
  clear hwk hb3 hin HCALL
  go_wp2_with fail
  refine HIN3.out.mono ?_
  rintro e w4 ⟨rfl, hb4⟩
  have HB4 := Lib.hid (below_trans HB3.out hb4)
  clear hb4
  go_wp2
  go_ret
  exact ⟨rfl, HB4.out⟩
end

end Go.Proofs.YtjfondfjdhjooaaGreatDoor
