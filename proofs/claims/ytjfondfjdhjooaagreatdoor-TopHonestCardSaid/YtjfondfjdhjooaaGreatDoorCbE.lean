/- keeper: divided seeds: what is valid, their shares, the leaves of the shares. keeper: Commit, Open, Keep. keeper: Check, join. keeper: join. -/
import Derived.Test.YtjfondfjdhjooaaGreatDoorCbD
import Derived.Laws.CopyOwn
namespace Go.Proofs.YtjfondfjdhjooaaGreatDoor
set_option linter.unusedVariables false
set_option linter.unusedSimpArgs false

section
open Go.RowKit

set_option maxHeartbeats 2000000 in
theorem kfadd_any (x : Int) (b : Bool) (w : World) (h : elemB x = b) :
    Calls Tryz.prog 87 #[.int .i64 x, .int .i64 0] w fun e w' => e = .returned (.tuple #[.int .i64 (if b then x else 0), .int .i64 (if b then 0 else 1)]) ∧ Below w.heap.size w w' := by
  have HE := Lib.hid (elements_any (some ⟨w.heap.size, 0, none⟩) 2 [x, 0] (w.alloc (.cells #[.int .i64 x, .int .i64 0] 3)) (Ints_two w _ x 0) (by simp))
  have hv : [x, 0].all elemB = b := by rw [List.all_cons, h]; cases b <;> rfl
  rw [hv] at HE
  clear hv
  cases b with
  | false =>
    clear h
    go_enter Tryz.func87, Tryz.ntmps87
    go_wp2_with fail
    refine HE.out.mono ?_
    rintro e w' ⟨rfl, rfl⟩
    go_wp2
    go_ret2
    exact ⟨rfl, below_alloc (Below.refl _ _) _⟩
  | true =>
    have hx := (elemB_iff x).1 h
    obtain ⟨h0, h1⟩ := hx
    have hm : x % 2147483647 = x := by omega
    have HM := Lib.hid hm
    clear h hm
    go_enter Tryz.func87, Tryz.ntmps87
    go_wp2_with fail
    refine HE.out.mono ?_
    rintro e w' ⟨rfl, rfl⟩
    go_wp2
    go_ret2
    refine ⟨?_, below_alloc (Below.refl _ _) _⟩
    first | rfl | (rw [Int.add_zero, HM.out]; rfl) | (simp only [Int.add_zero, HM.out]; rfl)

def dvB (l : List Int) (salt : ByteArray) (need total : Int) (random : List Int) : Bool := sdOk l salt && rdOk l.length need total random
theorem Div_cells {w w0 : World} {v s n t r : Value} (h : w.alloc (.cells #[v, s, n, t, r] 88) = w0) {W : World} (hW : Below w0.heap.size w0 W) :
    W.cell? ⟨w.heap.size, 0, none⟩ = some v ∧ W.cell? ⟨w.heap.size, 1, none⟩ = some s ∧ W.cell? ⟨w.heap.size, 2, none⟩ = some n ∧ W.cell? ⟨w.heap.size, 3, none⟩ = some t ∧ W.cell? ⟨w.heap.size, 4, none⟩ = some r ∧ w.heap.size < W.heap.size := by
  have hb : Blk w0 w.heap.size 88 #[v, s, n, t, r] := by rw [← h]; exact Blk.new w _ _ _ rfl
  have h0 := kept_cell hW (hb.of_cell (i := 0) rfl)
  exact ⟨h0, kept_cell hW (hb.of_cell (i := 1) rfl), kept_cell hW (hb.of_cell (i := 2) rfl), kept_cell hW (hb.of_cell (i := 3) rfl), kept_cell hW (hb.of_cell (i := 4) rfl), lt_of_cell h0⟩

set_option maxRecDepth 100000 in
set_option maxHeartbeats 8000000 in
theorem kdval_any (A : Option Addr) (c : Nat) (l : List Int) (salt : ByteArray) (need total : Int) (B : Option Addr) (d : Nat) (random : List Int) (w : World) (hA : Ints w A l) (hB : Ints w B random) (hl : l.length ≤ 9223372036854775807) (hs : salt.size ≤ 9223372036854775807) (hr : random.length ≤ 9223372036854775807) :
    Calls Tryz.prog 42 #[.agg #[.slice A l.length c, .string salt, .int .i64 need, .int .i64 total, .slice B random.length d]] w fun e w' => e = .returned (.bool (dvB l salt need total random)) ∧ Below w.heap.size w w' := by
  obtain ⟨w0, hw0⟩ : ∃ w0, w.alloc (.cells #[.slice A l.length c, .string salt, .int .i64 need, .int .i64 total, .slice B random.length d] 88) = w0 := ⟨_, rfl⟩
  have HB0 : Hid (Below w.heap.size w w0) := Lib.hid (by rw [← hw0]; exact below_alloc (Below.refl _ _) _)
  have HK : Hid (∀ W, Below w0.heap.size w0 W → _) := Lib.hid (fun W hW => Div_cells hw0 hW)
  have HA : Hid (∀ W, Below w.heap.size w W → Ints W A l) := Lib.hid (fun W hW => hA.below hW)
  have HB : Hid (∀ W, Below w.heap.size w W → Ints W B random) := Lib.hid (fun W hW => hB.below hW)
  have HSV : Hid (∀ W, Below w.heap.size w W → _) := Lib.hid (fun W hW => ksval_any A c l salt W (hA.below hW) hl hs)
  have HN1 : Hid (sdOk l salt = false → dvB l salt need total random = false) := Lib.hid (fun h => by unfold dvB; rw [h]; rfl)
  have HN2 : Hid (wiB total 1 7 = false → dvB l salt need total random = false) := Lib.hid (fun h => by
    have h := of_decide_eq_false h
    unfold dvB rdOk; rw [decide_eq_false (by omega)]; simp)
  have HN3 : Hid (wiB need 1 total = false → dvB l salt need total random = false) := Lib.hid (fun h => by
    have h := of_decide_eq_false h
    unfold dvB rdOk; rw [decide_eq_false (by omega)]; simp)
  have HN4 : Hid (¬ (random.length : Int) = (l.length : Int) * (need - 1) → dvB l salt need total random = false) := Lib.hid (fun h => by
    unfold dvB rdOk; rw [decide_eq_false (by omega)]; simp)
  have HN5 : Hid (random.all elemB = false → dvB l salt need total random = false) := Lib.hid (fun h => by
    unfold dvB rdOk; rw [h]; simp)
  have HY : Hid (sdOk l salt = true → wiB total 1 7 = true → wiB need 1 total = true → (random.length : Int) = (l.length : Int) * (need - 1) → random.all elemB = true → dvB l salt need total random = true) := Lib.hid (fun a b c d e => by
    have b := of_decide_eq_true b
    have c := of_decide_eq_true c
    unfold dvB rdOk; rw [a, e, decide_eq_true (by omega)]; rfl)
  have HSL : Hid (sdOk l salt = true → l.length ≤ 600) := Lib.hid (fun h => by
    simp only [sdOk, Bool.and_eq_true, decide_eq_true_eq] at h; exact h.2.2.1)
  obtain ⟨r, hrr⟩ : ∃ r, dvB l salt need total random = r := ⟨_, rfl⟩
  rw [hrr] at HN1 HN2 HN3 HN4 HN5 HY ⊢
  obtain ⟨b1, hb1⟩ : ∃ b, sdOk l salt = b := ⟨_, rfl⟩
  rw [hb1] at HSV HN1 HY HSL
  obtain ⟨b2, hb2⟩ : ∃ b, wiB total 1 7 = b := ⟨_, rfl⟩
  obtain ⟨b3, hb3⟩ : ∃ b, wiB need 1 total = b := ⟨_, rfl⟩
  rw [hb2] at HN2 HY
  rw [hb3] at HN3 HY
  have HB2 := Lib.hid hb2
  have HB3 := Lib.hid hb3
  clear hA hB hrr hb1 hb2 hb3
  obtain ⟨z0, z1, z2, z3, z4, zl⟩ := HK.out w0 (Below.refl _ _)
  go_enter Tryz.func42, Tryz.ntmps42
  go_wp2_with fail
  clear hw0 z0 z1 z2 z3 z4 zl
  refine (HSV.out w0 HB0.out).mono ?_
  rintro e w1 ⟨rfl, hb⟩
  have HX1 := Lib.hid hb
  clear hb
  obtain ⟨z0, z1, z2, z3, z4, zl⟩ := HK.out w1 HX1.out
  cases b1 with
  | false =>
    have hrf := HN1.out rfl
    subst hrf
    go_wp2
    go_ret
    exact ⟨rfl, below_trans HB0.out HX1.out⟩
  | true =>
  have hl6 := HSL.out rfl
  go_wp2_with fail
  refine (kwithin_any _ _ _ _).mono ?_
  rintro e _ ⟨rfl, rfl⟩
  rw [HB2.out]
  cases b2 with
  | false =>
    have hrf := HN2.out rfl
    subst hrf
    go_wp2
    go_ret
    exact ⟨rfl, below_trans HB0.out HX1.out⟩
  | true =>
  have ht7 := of_decide_eq_true HB2.out
  obtain ⟨ht1, ht7⟩ := ht7
  go_wp2_with fail
  refine (kwithin_any _ _ _ _).mono ?_
  rintro e _ ⟨rfl, rfl⟩
  rw [HB3.out]
  cases b3 with
  | false =>
    have hrf := HN3.out rfl
    subst hrf
    go_wp2
    go_ret
    exact ⟨rfl, below_trans HB0.out HX1.out⟩
  | true =>
  have hn7 := of_decide_eq_true HB3.out
  obtain ⟨hn1, hn7⟩ := hn7
  obtain ⟨n, hn⟩ : ∃ n : Nat, need - 1 = (n : Int) := ⟨(need - 1).toNat, by omega⟩
  have hn6 : n ≤ 6 := by omega
  have hml : l.length * n ≤ 600 * 6 := Nat.mul_le_mul hl6 hn6
  have hme : (l.length : Int) * (n : Int) = ((l.length * n : Nat) : Int) := by rw [Int.natCast_mul]
  rw [hn] at HN4 HY
  obtain ⟨q, hq⟩ : ∃ q, l.length * n = q := ⟨_, rfl⟩
  rw [hq] at hml hme
  have HME := Lib.hid hme
  rw [hme] at HN4 HY
  have hwr : IntKind.i64.wrap (q : Int) = (q : Int) := by rw [IntWalk.i64_in _ (by omega)]
  have HNE := Lib.hid hn
  clear hq
  by_cases hlen : random.length = q
  case neg =>
    have hrf := HN4.out (by omega)
    have h1 : ((random.length : Int) != (q : Int)) = true := by simp; omega
    subst hrf
    go_wp2
    go_ret
    exact ⟨rfl, below_trans HB0.out HX1.out⟩
  case pos =>
  have h1 : ((random.length : Int) != (q : Int)) = false := by simp; omega
  have HLE : Hid ((random.length : Int) = (q : Int)) := Lib.hid (by omega)
  clear hlen
  have HRL : Hid (random.length ≤ 9223372036854775807) := Lib.hid hr
  clear hwr hr
  go_wp2_with fail
  go_loopw [4, 5, 6, 42, 46, 47, 48, 49, 50, 51, 52] (fun _ _ _ u42 _ _ _ _ _ _ _ wr => ∃ k : Nat, k ≤ random.length ∧ u42 = .int .i64 k ∧ Below w0.heap.size w0 wr ∧ (random.take k).all elemB = true) (fun _ _ _ u42 _ _ _ _ _ _ _ _ => random.length - (intOf u42).toNat)
  case atStart => exact ⟨0, Nat.zero_le _, rfl, HX1.out, rfl⟩
  case round =>
  obtain ⟨k, hk, rfl, hb, hall⟩ := hrel
  have HX2 := Lib.hid hb
  have HAL := Lib.hid hall
  clear hb hall
  have hrl := HRL.out
  by_cases hlt : k < random.length
  case neg =>
    obtain rfl : k = random.length := by omega
    have hal : random.all elemB = true := by have := HAL.out; rwa [List.take_of_length_le (Nat.le_refl _)] at this
    have hrt := HY.out (by trivial) (by trivial) (by trivial) HLE.out hal
    subst hrt
    clear hal
    go_wp2
    go_ret
    exact ⟨rfl, below_trans HB0.out HX2.out⟩
  case pos =>
  obtain ⟨x, hx⟩ := get_some random k hlt
  obtain ⟨b, off, rfl, hcell⟩ := (HB.out wr (below_trans HB0.out HX2.out)).at_ hx
  have hcl := lt_of_cell hcell
  have HX := Lib.hid hx
  clear hx
  cases hxe : elemB x with
  | false =>
    have hrf := HN5.out (all_false_of elemB random k x HX.out hxe)
    subst hrf
    have HF := Lib.hid (kfadd_any x false wr hxe)
    rw [if_neg (by simp), if_neg (by simp)] at HF
    clear hxe
    go_wp2_with fail
    refine HF.out.mono ?_
    rintro e w2 ⟨rfl, hb⟩
    have HX3 := Lib.hid (below_trans HX2.out hb)
    clear hb
    go_wp2
    go_ret
    exact ⟨rfl, below_trans HB0.out HX3.out⟩
  | true =>
    have HF := Lib.hid (kfadd_any x true wr hxe)
    rw [if_pos rfl, if_pos rfl] at HF
    have hal : (random.take (k + 1)).all elemB = true := by rw [all_take_succ elemB random k x HX.out, HAL.out, hxe]; rfl
    have HAL2 := Lib.hid hal
    clear hxe hal
    go_wp2_with fail
    refine HF.out.mono ?_
    rintro e w2 ⟨rfl, hb⟩
    have HX3 := Lib.hid (below_trans HX2.out hb)
    clear hb
    go_wp2
    go_roundw
    case rel => exact ⟨k + 1, by omega, by go_num, HX3.out, HAL2.out⟩
    case measure => simp [intOf]; omega

/-- What of asks. -/
structure DivOk (l : List Int) (n m : Nat) (random : List Int) : Prop where
  few : l.length ≤ 600
  one : 1 ≤ n
  le : n ≤ m
  m7 : m ≤ 7
  len : random.length = l.length * (n - 1)
  el : random.all elemB = true
  sd : sdV l = true
theorem DivOk.of {l : List Int} {salt : ByteArray} {need total : Int} {random : List Int} (h : dvB l salt need total random = true) : ∃ n m : Nat, need = n ∧ total = m ∧ DivOk l n m random := by
  simp only [dvB, sdOk, rdOk, Bool.and_eq_true, decide_eq_true_eq] at h
  obtain ⟨⟨h1, h2, h3, h4⟩, ⟨h5, h6, h7, h8, h9⟩, h10⟩ := h
  refine ⟨need.toNat, total.toNat, by omega, by omega, h3, by omega, by omega, by omega, ?_, h10, h1⟩
  obtain ⟨n, hn⟩ : ∃ n : Nat, need - 1 = (n : Int) := ⟨(need - 1).toNat, by omega⟩
  have e : need.toNat - 1 = n := by omega
  rw [e]
  rw [hn, ← Int.natCast_mul] at h9
  omega

theorem slice_size1 (W : World) (f : Nat → Value) : (((sizeOf (Tryz.prog.elem 23)).run Tryz.prog W).andThen fun s w => .ok (f s) w) = .ok (f 1) W := by kernel_rfl

set_option maxRecDepth 100000 in
set_option maxHeartbeats 8000000 in
theorem kof_any (A : Option Addr) (c : Nat) (l : List Int) (salt : ByteArray) (n m : Nat) (B : Option Addr) (d : Nat) (random : List Int) (i : Nat) (w : World) (hA : Ints w A l) (hB : Ints w B random) (hok : DivOk l n m random) (hd : random.length ≤ d) (hd2 : d ≤ 9223372036854775807) (hi : i < l.length) :
    Calls Tryz.prog 59 #[.agg #[.slice A l.length c, .string salt, .int .i64 n, .int .i64 m, .slice B random.length d], .int .i64 i] w fun e w' => ∃ v, e = .returned v ∧ w'.ownsRow w.heap.size 48 2 v m (flat2 (kof l n m random i)) ∧ Below w.heap.size w w' := by
  obtain ⟨hf, h1, hnm, hm7, hlen, hel, hsd⟩ := hok
  obtain ⟨w0, hw0⟩ : ∃ w0, w.alloc (.cells #[.slice A l.length c, .string salt, .int .i64 n, .int .i64 m, .slice B random.length d] 88) = w0 := ⟨_, rfl⟩
  have HB0 : Hid (Below w.heap.size w w0) := Lib.hid (by rw [← hw0]; exact below_alloc (Below.refl _ _) _)
  have HK : Hid (∀ W, Below w0.heap.size w0 W → _) := Lib.hid (fun W hW => Div_cells hw0 hW)
  have HA : Hid (∀ W, Below w.heap.size w W → Ints W A l) := Lib.hid (fun W hW => hA.below hW)
  have HB : Hid (∀ W, Below w.heap.size w W → Ints W B random) := Lib.hid (fun W hW => hB.below hW)
  obtain ⟨x, hx⟩ := get_some l i hi
  have hxr := sdV_at hsd hx
  obtain ⟨k, hk⟩ : ∃ k, n - 1 = k := ⟨_, rfl⟩
  obtain ⟨q1, hq1⟩ : ∃ q, i * k = q := ⟨_, rfl⟩
  obtain ⟨q2, hq2⟩ : ∃ q, (i + 1) * k = q := ⟨_, rfl⟩
  have hq12 : q2 = q1 + k := by rw [← hq2, ← hq1, Nat.add_mul, Nat.one_mul]
  have hq2l : q2 ≤ random.length := by rw [hlen, hk, ← hq2]; exact Nat.mul_le_mul_right k hi
  have hrl6 : random.length ≤ 3600 := by rw [hlen, hk]; exact Nat.le_trans (Nat.mul_le_mul hf (show k ≤ 6 by omega)) (by omega)
  have e1 : IntKind.i64.wrap ((n : Int) - 1) = (k : Int) := by rw [IntWalk.i64_in _ (by omega)]; omega
  have e2 : IntKind.i64.wrap ((i : Int) * (k : Int)) = (q1 : Int) := by rw [← Int.natCast_mul, hq1, IntWalk.i64_in _ (by omega)]
  have e3 : IntKind.i64.wrap ((i : Int) + 1) = (i : Int) + 1 := by rw [IntWalk.i64_in _ (by omega)]
  have e4 : IntKind.i64.wrap (((i : Int) + 1) * (k : Int)) = (q2 : Int) := by rw [show ((i : Int) + 1) = ((i + 1 : Nat) : Int) by omega, ← Int.natCast_mul, hq2, IntWalk.i64_in _ (by omega)]
  obtain ⟨rs, hrs⟩ : ∃ rs, (random.drop q1).take k = rs := ⟨_, rfl⟩
  have hrsl : rs.length = k := by rw [← hrs, List.length_take, List.length_drop]; omega
  have hpo : kpoly l n random i = x :: rs := by unfold kpoly; rw [hx, hk, hq1, hrs]; rfl
  have hall : (x :: rs).all elemB = true := by
    rw [List.all_cons, ← hrs, Bool.and_eq_true]
    exact ⟨by rw [elemB_iff]; omega, by rw [List.all_eq_true] at hel ⊢; exact fun y hy => hel y (List.mem_of_mem_drop (List.mem_of_mem_take hy))⟩
  have HSP : Hid (∀ (Z : Option Addr) (cz : Nat) W, Ints W Z rs → Calls Tryz.prog 101 #[.int .i64 x, .int .i64 n, .int .i64 m, .slice Z k cz] W fun e w' => ∃ v, e = .returned (.tuple #[v, .int .i64 0]) ∧ w'.ownsRow W.heap.size 48 2 v m (flat2 (kof l n m random i)) ∧ Below W.heap.size W w') := Lib.hid (fun Z cz W hZ => by
    have := split_any x n m Z cz rs W hZ h1 hnm (by omega) (by omega) (by omega) hall
    unfold kof
    rw [hpo]
    rw [hrsl] at this
    exact this)
  have HIR : Hid (∀ (b o : Nat) W, B = some ⟨b, o, none⟩ → Below w.heap.size w W → Ints W (some ⟨b, o + q1, none⟩) rs) := Lib.hid (fun b o W hbo hW => by
    have hI := hB.below hW
    refine ⟨by simp, fun h0 => ⟨b, o + q1, rfl, fun j u hu => ?_⟩⟩
    obtain ⟨b', o', e', hc'⟩ := hI.2 (by omega)
    rw [hbo] at e'
    injection e' with e'
    injection e' with e1 e2
    subst e1 e2
    rw [Nat.add_assoc]
    apply hc'
    rw [← hrs, List.map_take, List.getElem?_take] at hu
    split at hu
    · rw [List.map_drop, List.getElem?_drop] at hu; exact hu
    · cases hu)
  obtain ⟨Z, hrun, hZI⟩ : ∃ Z : Option Addr, (∀ W, (Instr.slice 23 (.slice B random.length d) (some (.int .i64 (q1 : Int))) (some (.int .i64 (q2 : Int))) (some (.int .i64 (q2 : Int)))).run Tryz.prog W = .ok (.slice Z k k) W) ∧ ∀ W, Below w.heap.size w W → Ints W Z rs := by
    have h1 : ∀ W, (Instr.slice 23 (.slice B random.length d) (some (.int .i64 (q1 : Int))) (some (.int .i64 (q2 : Int))) (some (.int .i64 (q2 : Int)))).run Tryz.prog W = .ok (sliced B q1 q2 q2 1) W := fun W => by
      have := run_slice_lhm (P := Tryz.prog) W 23 B random.length d (by kernel_rfl) .i64 .i64 .i64 (q1 : Int) (q2 : Int) (q2 : Int) (by omega) (by omega) (by omega) (by omega)
      rw [this, Int.toNat_natCast, Int.toNat_natCast]
      exact slice_size1 W _
    by_cases hk0 : k = 0
    · refine ⟨B, fun W => ?_, fun W hW => ?_⟩
      · rw [h1 W, sliced, if_pos (by omega), show q2 - q1 = k by omega]
      · have : rs = [] := List.eq_nil_of_length_eq_zero (by omega)
        subst this
        exact Rd.nil W 1 B
    · obtain ⟨b, o, hbo, _⟩ := hB.2 (by omega)
      refine ⟨some ⟨b, o + q1, none⟩, fun W => ?_, fun W hW => HIR.out b o W hbo hW⟩
      rw [h1 W, sliced, if_neg (by omega), show q2 - q1 = k by omega, hbo, Nat.mul_one, Option.map_some, Addr.add_lit]
  have HRUN := Lib.hid hrun
  have HZI := Lib.hid hZI
  clear hrun hZI HIR hq12
  have HE1 := Lib.hid (And.intro e1 (And.intro e2 (And.intro e3 e4)))
  have HX := Lib.hid hx
  generalize kof l n m random i = R at *
  clear hA hB hel hsd hx hpo hall hrs e1 e2 e3 e4 hlen hq1 hq2 hk
  go_enter Tryz.func59, Tryz.ntmps59
  go_wp2_with fail
  clear hw0
  obtain ⟨e1, e2, e3, e4⟩ := HE1.out
  obtain ⟨z0, z1, z2, z3, z4, zl⟩ := HK.out w0 (Below.refl _ _)
  go_quiet (fail)
  clear e1 e2 e3 e4 z0 z1 z2 z3 z4 zl
  go_wp2_with fail
  obtain ⟨bA, oA, hAe⟩ : ∃ b o, A = some ⟨b, o, none⟩ := by
    obtain ⟨b, o, he, _⟩ := (HA.out w (Below.refl _ _)).at_ HX.out
    exact ⟨b, o, he⟩
  subst hAe
  refine wp_region_held_drew (S := fun W => Below w0.heap.size w0 W) (by kernel_rfl) ((below_drewN (Below.refl _ _) _).drew) (fun hS0 => ?_)
  refine wpAnyH_take (i := 0) (v := ?_) rfl (by kernel_rfl) (by kernel_rfl) (by kernel_rfl) (fun _ _ _ h => h) (Or.inl ⟨by kernel_rfl, ?hy⟩) hS0 ?rest
  case hy => (intro W hSw; clear hSw; go_simp; with_reducible rfl)
  case rest =>
  refine wpAnyH_take (i := 1) (v := ?_) rfl (by kernel_rfl) (by kernel_rfl) (by kernel_rfl) (fun _ _ _ h => h) (Or.inl ⟨by kernel_rfl, ?hy⟩) hS0 ?rest
  case hy => (intro W hSw; clear hSw; go_simp; with_reducible rfl)
  case rest =>
  refine wpAnyH_take (i := 2) (v := ?_) rfl (by kernel_rfl) (by kernel_rfl) (by kernel_rfl) (fun _ _ _ h => h) (Or.inl ⟨by kernel_rfl, ?hy⟩) hS0 ?rest
  case hy => (intro W hSw; obtain ⟨z0, z1, z2, z3, z4, zl⟩ := HK.out W hSw; clear hSw; go_simp; with_reducible rfl)
  case rest =>
  refine wpAnyH_take (i := 3) (v := ?_) rfl (by kernel_rfl) (by kernel_rfl) (by kernel_rfl) (fun _ _ _ h => h) (Or.inl ⟨by kernel_rfl, ?hy⟩) hS0 ?rest
  case hy => (intro W hSw; clear hSw; go_simp; with_reducible rfl)
  case rest =>
  refine wpAnyH_take (i := 4) (v := ?_) rfl (by kernel_rfl) (by kernel_rfl) (by kernel_rfl) (fun _ _ _ h => h) (Or.inl ⟨by kernel_rfl, ?hy⟩) hS0 ?rest
  case hy => (intro W hSw; clear hSw; go_simp; with_reducible rfl)
  case rest =>
  refine wpAnyH_take (i := 5) (v := ?_) rfl (by kernel_rfl) (by kernel_rfl) (by kernel_rfl) (fun _ _ _ h => h) (Or.inl ⟨by kernel_rfl, ?hy⟩) hS0 ?rest
  case hy => (intro W hSw; obtain ⟨b, o, he, z⟩ := (HA.out W (below_trans HB0.out hSw)).at_ HX.out; cases he; have zl := lt_of_cell z; clear hSw; go_simp; with_reducible rfl)
  case rest =>
  try go_simp
  refine wpAnyH_take (i := 6) (v := ?_) rfl (by kernel_rfl) (by kernel_rfl) (by kernel_rfl) (fun _ _ _ h => h) (Or.inl ⟨by kernel_rfl, ?hy⟩) hS0 ?rest
  case hy => (intro W hSw; clear hSw; go_simp; with_reducible rfl)
  case rest =>
  refine wpAnyH_take (i := 7) (v := ?_) rfl (by kernel_rfl) (by kernel_rfl) (by kernel_rfl) (fun _ _ _ h => h) (Or.inl ⟨by kernel_rfl, ?hy⟩) hS0 ?rest
  case hy => (intro W hSw; obtain ⟨z0, z1, z2, z3, z4, zl⟩ := HK.out W hSw; clear hSw; go_simp; with_reducible rfl)
  case rest =>
  refine wpAnyH_take (i := 8) (v := ?_) rfl (by kernel_rfl) (by kernel_rfl) (by kernel_rfl) (fun _ _ _ h => h) (Or.inl ⟨by kernel_rfl, ?hy⟩) hS0 ?rest
  case hy => (intro W hSw; clear hSw; go_simp; with_reducible rfl)
  case rest =>
  refine wpAnyH_take (i := 9) (v := ?_) rfl (by kernel_rfl) (by kernel_rfl) (by kernel_rfl) (fun _ _ _ h => h) (Or.inl ⟨by kernel_rfl, ?hy⟩) hS0 ?rest
  case hy => (intro W hSw; obtain ⟨z0, z1, z2, z3, z4, zl⟩ := HK.out W hSw; clear hSw; go_simp; with_reducible rfl)
  case rest =>
  refine wpAnyH_take (i := 10) (v := ?_) rfl (by kernel_rfl) (by kernel_rfl) (by kernel_rfl) (fun _ _ _ h => h) (Or.inl ⟨by kernel_rfl, ?hy⟩) hS0 ?rest
  case hy => (intro W hSw; clear hSw; go_simp; with_reducible rfl)
  case rest =>
  refine wpAnyH_take (i := 11) (v := ?_) rfl (by kernel_rfl) (by kernel_rfl) (by kernel_rfl) (fun _ _ _ h => h) (Or.inl ⟨by kernel_rfl, ?hy⟩) hS0 ?rest
  case hy => (intro W hSw; obtain ⟨z0, z1, z2, z3, z4, zl⟩ := HK.out W hSw; clear hSw; go_simp; with_reducible rfl)
  case rest =>
  try go_simp
  refine wpAnyH_take (i := 12) (v := ?_) rfl (by kernel_rfl) (by kernel_rfl) (by kernel_rfl) (fun _ _ _ h => h) (Or.inl ⟨by kernel_rfl, ?hy⟩) hS0 ?rest
  case hy => (intro W hSw; clear hSw; go_simp; with_reducible rfl)
  case rest =>
  refine wpAnyH_take (i := 13) (v := ?_) rfl (by kernel_rfl) (by kernel_rfl) (by kernel_rfl) (fun _ _ _ h => h) (Or.inl ⟨by kernel_rfl, ?hy⟩) hS0 ?rest
  case hy => (intro W hSw; clear hSw; go_simp; with_reducible rfl)
  case rest =>
  refine wpAnyH_take (i := 14) (v := ?_) rfl (by kernel_rfl) (by kernel_rfl) (by kernel_rfl) (fun _ _ _ h => h) (Or.inl ⟨by kernel_rfl, ?hy⟩) hS0 ?rest
  case hy => (intro W hSw; clear hSw; go_simp; with_reducible rfl)
  case rest =>
  refine wpAnyH_take (i := 15) (v := ?_) rfl (by kernel_rfl) (by kernel_rfl) (by kernel_rfl) (fun _ _ _ h => h) (Or.inl ⟨by kernel_rfl, ?hy⟩) hS0 ?rest
  case hy => (intro W hSw; have hrun := HRUN.out W; clear hSw; go_simp; with_reducible rfl)
  case rest =>
  refine wpAnyH_ready (rs := [16]) (by kernel_rfl) (by simp) ?_
  refine AllReadyH.cons rfl (fun K hK => ?_) (AllReadyH.nil)
  go_simp
  refine (HSP.out Z k _ (HZI.out _ (below_trans HB0.out hS0))).mono ?_
  rintro e wa ⟨v, rfl, ho, hb⟩
  have HOA := Lib.hid ho
  have HBA := Lib.hid (below_trans hS0 hb)
  have HSZ := Lib.hid (hS0).size
  go_simp
  refine hK.out _ _ HBA.out (fun hS1 => ?_)
  clear hK K hb ho
  refine wpAnyH_take (i := 17) (v := ?_) rfl (by kernel_rfl) (by kernel_rfl) (by kernel_rfl) (fun _ _ _ h => h) (Or.inl ⟨by kernel_rfl, ?hy⟩) hS1 ?rest
  case hy => (intro W hSw; clear hSw; go_simp; with_reducible rfl)
  case rest =>
  refine wpAnyH_take (i := 18) (v := ?_) rfl (by kernel_rfl) (by kernel_rfl) (by kernel_rfl) (fun _ _ _ h => h) (Or.inl ⟨by kernel_rfl, ?hy⟩) hS1 ?rest
  case hy => (intro W hSw; clear hSw; go_simp; with_reducible rfl)
  case rest =>
  try go_simp
  refine wpAnyH_take (i := 19) (v := ?_) rfl (by kernel_rfl) (by kernel_rfl) (by kernel_rfl) (fun _ _ _ h => h) (Or.inl ⟨by kernel_rfl, ?hy⟩) hS1 ?rest
  case hy => (intro W hSw; clear hSw; go_simp; with_reducible rfl)
  case rest =>
  refine wpAnyH_take (i := 20) (v := ?_) rfl (by kernel_rfl) (by kernel_rfl) (by kernel_rfl) (fun _ _ _ h => h) (Or.inl ⟨by kernel_rfl, ?hy⟩) hS1 ?rest
  case hy => (intro W hSw; clear hSw; go_simp; with_reducible rfl)
  case rest =>
  refine wpAnyH_take (i := 21) (v := ?_) rfl (by kernel_rfl) (by kernel_rfl) (by kernel_rfl) (fun _ _ _ h => h) (Or.inl ⟨by kernel_rfl, ?hy⟩) hS1 ?rest
  case hy => (intro W hSw; clear hSw; go_simp; with_reducible rfl)
  case rest =>
  refine wpAnyH_done (by kernel_rfl) ?_ _
  clear hS1
  go_wp2
  go_ret
  exact ⟨_, rfl, row_mono HOA.out (by have := HB0.out.size; have := HSZ.out; omega), below_trans HB0.out HBA.out⟩
theorem own_ne {w : World} {b1 b2 e1 e2 s1 s2 n1 n2 : Nat} {v1 v2 : Value} {x1 x2 : List Value} (h1 : w.ownsRow b1 e1 s1 v1 n1 x1) (h2 : w.ownsRow b2 e2 s2 v2 n2 x2) (hne : e1 ≠ e2) : v1.ownBlock = none ∨ v1.ownBlock ≠ v2.ownBlock := by
  rcases h1.2 with ⟨rfl, _⟩ | ⟨g, cap, cur, rfl, _, hg, _⟩
  · exact .inl rfl
  · right
    rcases h2.2 with ⟨rfl, _⟩ | ⟨g', cap', cur', rfl, _, hg', _⟩
    · simp [Value.ownBlock]
    · simp only [Value.ownBlock, ne_eq, Option.some.injEq]
      intro e
      subst e
      rw [hg] at hg'
      injection hg' with hg'
      injection hg' with _ ht
      exact hne ht
set_option maxHeartbeats 4000000 in
theorem kshl_any (i : Nat) (s : Int × Int) (w : World) (hi : i ≤ 1000000) (h1 : 0 ≤ s.1 ∧ s.1 ≤ 1000000000) (h2 : 0 ≤ s.2 ∧ s.2 < 2147483647) (hT : Tabs w) :
    Calls Tryz.prog 90 #[.int .i64 i, .agg #[.int .i64 s.1, .int .i64 s.2]] w fun e w' => e = .returned (.string (khLf i s)) ∧ Below w.heap.size w w' := by
  have hsz := khT_size i s (by omega) (by omega) (by omega)
  obtain ⟨x, y⟩ := s
  simp only at h1 h2
  obtain ⟨X, rfl⟩ : ∃ X : Nat, x = X := ⟨x.toNat, by omega⟩
  obtain ⟨Y, rfl⟩ : ∃ Y : Nat, y = Y := ⟨y.toNat, by omega⟩
  have hsh : khT i ((X : Int), (Y : Int)) = dec i ++ ⟨#[32]⟩ ++ dec X ++ ⟨#[32]⟩ ++ dec Y := by
    unfold khT bSp
    rw [Int.toNat_natCast, Int.toNat_natCast]
  obtain ⟨w0, hw0⟩ : ∃ w0, w.alloc (.cells #[.int .i64 (X : Int), .int .i64 (Y : Int)] 48) = w0 := ⟨_, rfl⟩
  have HB0 : Hid (Below w.heap.size w w0) := Lib.hid (by rw [← hw0]; exact below_alloc (Below.refl _ _) _)
  have HK : Hid (∀ W, Below w0.heap.size w0 W → W.cell? ⟨w.heap.size, 0, none⟩ = some (.int .i64 (X : Int)) ∧ W.cell? ⟨w.heap.size, 1, none⟩ = some (.int .i64 (Y : Int))) := Lib.hid (fun W hW => by
    have hb : Blk w0 w.heap.size 48 #[.int .i64 (X : Int), .int .i64 (Y : Int)] := by rw [← hw0]; exact Blk.new w _ _ _ rfl
    exact ⟨kept_cell hW (hb.of_cell (i := 0) rfl), kept_cell hW (hb.of_cell (i := 1) rfl)⟩)
  have HD : Hid (∀ (n : Nat) (W : World), n ≤ 9223372036854775807 → Below w0.heap.size w0 W → Calls Tryz.prog 97 #[.int .i64 (n : Int)] W fun e w' => e = .returned (.string (dec n)) ∧ Below w0.heap.size w0 w') := Lib.hid (fun n W h hW0 => by
    have hW := below_trans HB0.out hW0
    have H : Calls Tryz.prog 97 #[.int .i64 (n : Int)] W fun e w' => e = .returned (.string (dec n)) ∧ Below W.heap.size W w' := itoa_any n h W (hT.below hW)
    exact H.mono fun _ _ ⟨he, hb⟩ => ⟨he, below_trans hW0 hb⟩)
  have HLF : Hid (∀ W, Below w0.heap.size w0 W → Calls Tryz.prog 111 #[.string (khT i ((X : Int), (Y : Int)))] W fun e w' => e = .returned (.string (khLf i ((X : Int), (Y : Int)))) ∧ Below w0.heap.size w0 w') := Lib.hid (fun W hW => (leaf_any _ (by omega) W (hT.below (below_trans HB0.out hW))).mono fun _ _ ⟨he, hb⟩ => ⟨he, below_trans hW hb⟩)
  rw [hsh] at HLF
  generalize khLf i ((X : Int), (Y : Int)) = RL at *
  rw [hsh] at hsz
  have HDI := Lib.hid (fun W (hW : Below w0.heap.size w0 W) => HD.out i W (by omega) hW)
  have HDX := Lib.hid (fun W (hW : Below w0.heap.size w0 W) => HD.out X W (by omega) hW)
  have HDY := Lib.hid (fun W (hW : Below w0.heap.size w0 W) => HD.out Y W (by omega) hW)
  have HW0 := Lib.hid hw0
  clear hw0 h1 h2 hsh HD
  generalize dec i = di at *
  generalize dec X = dx at *
  generalize dec Y = dy at *
  have hz : (⟨#[32]⟩ : ByteArray).size = 1 := rfl
  simp only [ByteArray.size_append, hz] at hsz
  have s1 : ¬ 9223372036854775807 < di.size + 1 := by omega
  have s2 : ¬ 9223372036854775807 < (di ++ ⟨#[32]⟩ : ByteArray).size + dx.size := by rw [ByteArray.size_append]; omega
  have s3 : ¬ 9223372036854775807 < di.size + 1 + dx.size := by omega
  have s4 : ¬ 9223372036854775807 < (di ++ ⟨#[32]⟩ ++ dx : ByteArray).size + 1 := by rw [ByteArray.size_append, ByteArray.size_append]; omega
  have s5 : ¬ 9223372036854775807 < di.size + 1 + dx.size + 1 := by omega
  have s6 : ¬ 9223372036854775807 < (di ++ ⟨#[32]⟩ ++ dx ++ ⟨#[32]⟩ : ByteArray).size + dy.size := by rw [ByteArray.size_append, ByteArray.size_append, ByteArray.size_append]; omega
  have s7 : ¬ 9223372036854775807 < di.size + 1 + dx.size + 1 + dy.size := by omega
  clear hz
  go_enter Tryz.func90, Tryz.ntmps90
  go_wp2_with fail
  have hw0 := HW0.out
  rw [hw0]
  clear hw0
  refine wp_region_belowC (by kernel_rfl) (by kernel_rfl) (fun WQ HQS HQN => ?_)
  refine HQS.go (fun K hK => ?_)
  go_simp
  apply Exists.intro
  refine ⟨fun W hW => ?_, hK _ ?_⟩
  · (try go_simp)
    exact rfl
  clear hK K
  refine HQS.go (fun K hK => ?_)
  go_simp
  apply Exists.intro
  refine ⟨fun W hW => ?_, hK _ ?_⟩
  · exact HDI.out W hW
  clear hK K
  refine HQS.go (fun K hK => ?_)
  go_simp
  apply Exists.intro
  refine ⟨fun W hW => ?_, hK _ ?_⟩
  · (try go_simp)
    exact rfl
  clear hK K
  refine HQS.go (fun K hK => ?_)
  go_simp
  apply Exists.intro
  refine ⟨fun W hW => ?_, hK _ ?_⟩
  · (try go_simp)
    exact rfl
  clear hK K
  refine HQS.go (fun K hK => ?_)
  go_simp
  apply Exists.intro
  refine ⟨fun W hW => ?_, hK _ ?_⟩
  · obtain ⟨q1, q2⟩ := HK.out W hW
    have ql := lt_of_cell q1
    go_simp
    exact rfl
  clear hK K
  refine HQS.go (fun K hK => ?_)
  go_simp
  apply Exists.intro
  refine ⟨fun W hW => ?_, hK _ ?_⟩
  · exact HDX.out W hW
  clear hK K
  refine HQS.go (fun K hK => ?_)
  go_simp
  apply Exists.intro
  refine ⟨fun W hW => ?_, hK _ ?_⟩
  · (try go_simp)
    exact rfl
  clear hK K
  refine HQS.go (fun K hK => ?_)
  go_simp
  apply Exists.intro
  refine ⟨fun W hW => ?_, hK _ ?_⟩
  · (try go_simp)
    exact rfl
  clear hK K
  refine HQS.go (fun K hK => ?_)
  go_simp
  apply Exists.intro
  refine ⟨fun W hW => ?_, hK _ ?_⟩
  · (try go_simp)
    exact rfl
  clear hK K
  refine HQS.go (fun K hK => ?_)
  go_simp
  apply Exists.intro
  refine ⟨fun W hW => ?_, hK _ ?_⟩
  · obtain ⟨q1, q2⟩ := HK.out W hW
    have ql := lt_of_cell q1
    go_simp
    exact rfl
  clear hK K
  refine HQS.go (fun K hK => ?_)
  go_simp
  apply Exists.intro
  refine ⟨fun W hW => ?_, hK _ ?_⟩
  · exact HDY.out W hW
  clear hK K
  refine HQS.go (fun K hK => ?_)
  go_simp
  apply Exists.intro
  refine ⟨fun W hW => ?_, hK _ ?_⟩
  · (try go_simp)
    exact rfl
  clear hK K
  refine HQS.go (fun K hK => ?_)
  go_simp
  apply Exists.intro
  refine ⟨fun W hW => ?_, hK _ ?_⟩
  · exact HLF.out W hW
  clear hK K
  refine HQS.go (fun K hK => ?_)
  go_simp
  apply Exists.intro
  refine ⟨fun W hW => ?_, hK _ ?_⟩
  · (try go_simp)
    exact rfl
  clear hK K
  refine HQN.go ?_
  intro W hW
  go_wp2
  go_ret
  exact ⟨rfl, below_trans HB0.out hW⟩
theorem kof_lst (l : List Int) (n m : Nat) (random : List Int) (i j : Nat) (s : Int × Int) (h : (kof l n m random i)[j]? = some s) : (1 ≤ s.1 ∧ s.1 ≤ m) ∧ 0 ≤ s.2 ∧ s.2 < 2147483647 := by
  have hj : j < m := by have := (List.getElem?_eq_some_iff.1 h).1; rwa [kof_length] at this
  rw [kof_get l n m random i j hj] at h
  have := evp_range (kpoly l n random i) ((j : Int) + 1)
  rw [← Option.some.inj h]
  exact ⟨⟨by simp only; omega, by simp only; omega⟩, this⟩

set_option maxRecDepth 100000 in
set_option maxHeartbeats 8000000 in
theorem kkept_any (A : Option Addr) (c : Nat) (l : List Int) (salt : ByteArray) (n m : Nat) (B : Option Addr) (d : Nat) (random : List Int) (w : World) (hA : Ints w A l) (hB : Ints w B random) (hok : DivOk l n m random) (hd : random.length ≤ d) (hd2 : d ≤ 9223372036854775807) (hT : Tabs w) :
    Calls Tryz.prog 45 #[.agg #[.slice A l.length c, .string salt, .int .i64 n, .int .i64 m, .slice B random.length d]] w fun e w' => ∃ v, e = .returned v ∧ w'.ownsRow w.heap.size 9 1 v (l.length * m) ((khP l n m random l.length).map Value.string) ∧ Below w.heap.size w w' := by
  obtain ⟨w0, hw0⟩ : ∃ w0, w.alloc (.cells #[.slice A l.length c, .string salt, .int .i64 n, .int .i64 m, .slice B random.length d] 88) = w0 := ⟨_, rfl⟩
  have HB0 : Hid (Below w.heap.size w w0) := Lib.hid (by rw [← hw0]; exact below_alloc (Below.refl _ _) _)
  have HK : Hid (∀ W, Below w0.heap.size w0 W → _) := Lib.hid (fun W hW => Div_cells hw0 hW)
  have HT : Hid (∀ W, Below w.heap.size w W → Tabs W) := Lib.hid (fun W hW => hT.below hW)
  have HOF : Hid (∀ (i : Nat) W, i < l.length → Below w.heap.size w W → _) := Lib.hid (fun i W hi hW => kof_any A c l salt n m B d random i W (hA.below hW) (hB.below hW) hok hd hd2 hi)
  have HOL : Hid (∀ i, (kof l n m random i).length = m) := Lib.hid (fun i => kof_length l n m random i)
  have HOR : Hid (∀ (i j : Nat) (s : Int × Int), (kof l n m random i)[j]? = some s → (1 ≤ s.1 ∧ s.1 ≤ m) ∧ 0 ≤ s.2 ∧ s.2 < 2147483647) := Lib.hid (fun i j s h => kof_lst l n m random i j s h)
  have HP0 : Hid (khP l n m random 0 = []) := Lib.hid rfl
  have HPS : Hid (∀ i, khP l n m random (i + 1) = khP l n m random i ++ (kof l n m random i).map (khLf i)) := Lib.hid (fun i => khP_succ l n m random i)
  have hl6 := hok.few
  have hm7 := hok.m7
  have HML : Hid (∀ k j, k < l.length → j ≤ m → k * m + j ≤ 4200) := Lib.hid (fun k j hk hj => by
    have h1 : (k + 1) * m ≤ 600 * 7 := Nat.mul_le_mul (by omega) hm7
    rw [Nat.add_mul] at h1; omega)
  have HMS : Hid (∀ k, (k + 1) * m = k * m + m) := Lib.hid (fun k => by rw [Nat.add_mul, Nat.one_mul])
  obtain ⟨i0, hi0, hz0, hz1, hz2⟩ := info_parts info_strg
  have HI := Lib.hid (And.intro hi0 (And.intro hz0 (And.intro hz1 hz2)))
  have HO0 : Hid (w0.ownsRow w0.heap.size 9 1 (.slice none 0 0) (0 * m) ((khP l n m random 0).map Value.string)) := Lib.hid (by rw [Nat.zero_mul]; exact World.ownsRow_nil _ _ _ _)
  generalize khP l n m random = KP at *
  generalize kof l n m random = KO at *
  obtain ⟨z0, z1, z2, z3, z4, zl⟩ := HK.out w0 (Below.refl _ _)
  clear hA hB hok hT hi0 hz0 hz1 hz2
  go_enter Tryz.func45, Tryz.ntmps45
  go_wp2_with fail
  clear hw0 z0 z1 z2 z3 z4 zl
  go_loopw [3, 4, 6, 11, 14, 15, 16, 17, 18, 19, 20, 21, 22, 23, 24, 25, 26, 27, 28] (fun u3 _ _ u11 _ _ _ _ _ _ _ _ _ _ _ _ _ _ _ wr => ∃ k : Nat, k ≤ l.length ∧ u11 = .int .i64 k ∧ Below w0.heap.size w0 wr ∧ wr.ownsRow w0.heap.size 9 1 u3 (k * m) ((KP k).map Value.string)) (fun _ _ _ u11 _ _ _ _ _ _ _ _ _ _ _ _ _ _ _ _ => l.length - (intOf u11).toNat)
  case atStart => exact ⟨0, Nat.zero_le _, rfl, Below.refl _ _, HO0.out⟩
  case round =>
  obtain ⟨k, hk, rfl, hb, ho⟩ := hrel
  have HBk := Lib.hid hb
  have HOk := Lib.hid ho
  have HBw := Lib.hid (below_trans HB0.out hb)
  clear hb ho
  by_cases hlt : k < l.length
  case neg =>
    obtain rfl : k = l.length := by omega
    go_wp2
    go_ret
    exact ⟨_, rfl, row_mono HOk.out HB0.out.size, HBw.out⟩
  case pos =>
  obtain ⟨z0, z1, z2, z3, z4, zl⟩ := HK.out wr HBk.out
  go_wp2_with fail
  refine (HOF.out k wr hlt HBw.out).mono ?_
  rintro e w1 ⟨vS, rfl, hoS, hb1⟩
  obtain ⟨AS, cS, rfl, -, -, -⟩ := Rd.of_own hoS
  have HOS := Lib.hid hoS
  have HB1 := Lib.hid (below_trans HBk.out hb1)
  have HO1 : Hid (w1.ownsRow w0.heap.size 9 1 u3 (k * m + 0) ((KP k ++ ((KO k).take 0).map (khLf k)).map Value.string)) := Lib.hid (by
    rw [List.take_zero, List.map_nil, List.append_nil]; exact row_below HOk.out hb1)
  clear hoS hb1 z0 z1 z2 z3 z4 zl
  have hor := HOR.out k
  have hol := HOL.out k
  have HPK := Lib.hid (HPS.out k)
  have HML1 : Hid (∀ j, j ≤ m → k * m + j ≤ 4200) := Lib.hid (fun j hj => HML.out k j hlt hj)
  have HMS1 := Lib.hid (HMS.out k)
  generalize KO k = S at *
  have HSR := Lib.hid hor
  have HSL := Lib.hid hol
  obtain ⟨wo, hwo⟩ : ∃ wo : World, wo = wr := ⟨_, rfl⟩
  clear hor hol
  subst hwo
  go_wp2_with fail
  go_loopw [3, 6, 18, 20, 21, 22, 23, 24, 25, 26, 27] (fun u3 _ u18 _ _ _ _ _ _ _ _ wr => ∃ j : Nat, j ≤ m ∧ u18 = .int .i64 j ∧ Below w0.heap.size w0 wr ∧ wr.ownsRow wo.heap.size 48 2 (.slice AS m cS) m (flat2 S) ∧ wr.ownsRow w0.heap.size 9 1 u3 (k * m + j) ((KP k ++ (S.take j).map (khLf k)).map Value.string)) (fun _ _ u18 _ _ _ _ _ _ _ _ _ => m - (intOf u18).toNat)
  case atStart => exact ⟨0, Nat.zero_le _, rfl, HB1.out, HOS.out, HO1.out⟩
  case round =>
  obtain ⟨j, hj, rfl, hb, hoS, ho⟩ := hrel
  have HBj := Lib.hid hb
  have HSj := Lib.hid hoS
  have HOj := Lib.hid ho
  clear hb hoS ho
  by_cases hjm : j < m
  case neg =>
    obtain rfl : j = m := by omega
    have ho := HOj.out
    rw [List.take_of_length_le (by rw [HSL.out]; exact Nat.le_refl _), ← HPK.out, ← HMS1.out] at ho
    have HO := Lib.hid ho
    clear ho
    go_wp2
    go_roundw
    case rel => exact ⟨k + 1, by omega, by go_num, HBj.out, HO.out⟩
    case measure => simp [intOf]; omega
  case pos =>
  obtain ⟨s, hs⟩ := get_some S j (by rw [HSL.out]; exact hjm)
  obtain ⟨⟨s1, s2⟩, s3, s4⟩ := HSR.out j s hs
  obtain ⟨A', c', hv, _, _, hrd⟩ := Rd.of_own HSj.out
  obtain ⟨e1, e2, e3⟩ : AS = A' ∧ True ∧ cS = c' := by simpa using hv
  subst e1 e3
  have hpr : Prs wr AS S := by unfold Prs; rw [HSL.out]; exact hrd
  obtain ⟨bS, oS, rfl, q1, q2⟩ := hpr.at_ hs
  have ql := lt_of_cell q1
  have HTK := Lib.hid (take_snoc S j s hs)
  have hml := HML1.out (j + 1) (by omega)
  have HSH : Hid (∀ W, Below w.heap.size w W → Calls Tryz.prog 90 #[.int .i64 k, .agg #[.int .i64 s.1, .int .i64 s.2]] W fun e w' => e = .returned (.string (khLf k s)) ∧ Below W.heap.size W w') := Lib.hid (fun W hW => kshl_any k s W (by omega) (by omega) (by omega) (HT.out W hW))
  clear hs hv hrd hpr e2
  go_wp2_with fail
  refine (HSH.out _ (below_trans HB0.out (below_alloc HBj.out _))).mono ?_
  rintro e w2 ⟨rfl, hb2⟩
  have HB2 := Lib.hid (below_trans (below_alloc HBj.out _) hb2)
  have HS2 := Lib.hid (row_below (HSj.out.alloc _) hb2)
  have HO2 := Lib.hid (row_below (HOj.out.alloc _) hb2)
  clear hb2 q1 q2 ql
  generalize hdd : khLf k s = dl at *
  have HDD := Lib.hid hdd
  clear hdd
  have hsz : w0.heap.size ≤ w2.heap.size := HB2.out.size
  go_wp2_with (at_builtin; refine wpList_app _ rfl (.tmp 22) (.tmp 26) 30 30 rfl w0.heap.size 9 9 i0 _ 1 16 Tryz.underlying30 Tryz.underlying30 HI.out.1 HI.out.2.1 HI.out.2.2.1 HI.out.2.2.2 rfl (by omega) _ (k * m + j) _ rfl (HO2.out.alloc _) _ 1 1 [.string dl] rfl (Rd_new w2 #[.string dl] _ 1 1 _ rfl rfl) (by simp [Value.oneCell']) (by simp only [maxLen]; omega) (by omega) (by simp; omega) ?_)
  intro v1 w3 hown3 hg3
  have HS3 := Lib.hid ((HS2.out.alloc (.cells #[.string dl] 9)).kept hg3 (own_ne HS2.out HO2.out (by decide)))
  have HB3 : Hid (Below w0.heap.size w0 w3) := Lib.hid ((below_alloc HB2.out _).grown hg3 (by simp; omega) (fun j hj => (HO2.out.lt j hj).1))
  have hO3 : w3.ownsRow w0.heap.size 9 1 v1 (k * m + (j + 1)) ((KP k ++ (S.take (j + 1)).map (khLf k)).map Value.string) := by
    have e3 : (KP k ++ (S.take (j + 1)).map (khLf k)).map Value.string = (KP k ++ (S.take j).map (khLf k)).map Value.string ++ [.string dl] := by
      rw [HTK.out]; simp [HDD.out]
    rw [e3, show k * m + (j + 1) = k * m + j + 1 from rfl]
    first | exact hown3 | (simp only [List.map_append] at hown3 ⊢; exact hown3) | simpa using hown3
  have HO3 := Lib.hid hO3
  clear hown3 hg3 hO3
  go_wp2
  go_roundw
  case rel => exact ⟨j + 1, by omega, by go_num, HB3.out, HS3.out, HO3.out⟩
  case measure => simp [intOf]; omega
end

section
open Go.RowKit

/-- What Commit returns. -/
def cmR (l : List Int) (salt : ByteArray) (need total : Int) (random : List Int) : ByteArray × ByteArray :=
  if dvB l salt need total random then (rt (ksL l salt), rt (khP l need.toNat total.toNat random l.length)) else (⟨#[]⟩, ⟨#[]⟩)
theorem Blk.rowK {w : World} {b : Nat} {t : TypeId} {old : Array Value} (h : Blk w b t old) (cells : Array Value) : Blk (w.setRow b cells) b t cells := setRow_heap w b old cells t _ h
theorem size_cm : (Tryz.prog.info? 29).map (·.size) = some 2 := by kernel_rfl
theorem size_og : (Tryz.prog.info? 32).map (·.size) = some 4 := by kernel_rfl
theorem size_kp : (Tryz.prog.info? 50).map (·.size) = some 4 := by kernel_rfl
set_option maxRecDepth 100000 in
set_option maxHeartbeats 8000000 in
theorem kcommit_any (A : Option Addr) (c : Nat) (l : List Int) (salt : ByteArray) (need total : Int) (B : Option Addr) (d : Nat) (random : List Int) (w : World) (hA : Ints w A l) (hB : Ints w B random) (hl : l.length ≤ 9223372036854775807) (hs : salt.size ≤ 9223372036854775807) (hd : random.length ≤ d) (hd2 : d ≤ 9223372036854775807) (hT : Tabs w) :
    Calls Tryz.prog 17 #[.slice A l.length c, .string salt, .int .i64 need, .int .i64 total, .slice B random.length d] w fun e w' =>
      e = .returned (.tuple #[.agg #[.string (cmR l salt need total random).1, .string (cmR l salt need total random).2], .int .i64 (if dvB l salt need total random then 0 else 1)]) ∧ Below w.heap.size w w' := by
  have HT : Hid (∀ W, Below w.heap.size w W → Tabs W) := Lib.hid (fun W hW => hT.below hW)
  have HDV : Hid (∀ W, Below w.heap.size w W → _) := Lib.hid (fun W hW => kdval_any A c l salt need total B d random W (hA.below hW) (hB.below hW) hl hs (by omega))
  cases hv : dvB l salt need total random with
  | false =>
    have hR : cmR l salt need total random = (⟨#[]⟩, ⟨#[]⟩) := by unfold cmR; rw [hv]; rfl
    rw [hR]
    rw [hv] at HDV
    clear hv hR hA hB
    go_enter Tryz.func17, Tryz.ntmps17
    go_wp2_with fail
    refine (HDV.out _ (below_alloc (below_alloc (Below.refl _ _) _) _)).mono ?_
    rintro e w1 ⟨rfl, hb⟩
    have HB1 := Lib.hid (below_trans (below_alloc (below_alloc (Below.refl _ _) _) _) hb)
    have HBK : Hid (Blk w1 w.heap.size 29 #[.string ⟨#[]⟩, .string ⟨#[]⟩]) := Lib.hid ((hb.block _ (by simp; omega)).trans ((Blk.new w _ _ _ rfl).alloc _))
    clear hb
    go_wp2_with (refine wpList_store_row rfl 29 (.tmp 10) (.tmp 27) rfl w.heap.size #[.string ⟨#[]⟩, .string ⟨#[]⟩] rfl rfl 29 #[.string ⟨#[]⟩, .string ⟨#[]⟩] HBK.out size_cm rfl (by simp [Value.oneCell']) ?_)
    have hbk := Blk.rowK HBK.out #[.string ⟨#[]⟩, .string ⟨#[]⟩]
    have hbel := below_setRow HB1.out (Nat.le_refl _) #[.string ⟨#[]⟩, .string ⟨#[]⟩]
    generalize w1.setRow w.heap.size _ = w2 at *
    have cc0 := hbk.of_cell (i := 0) rfl
    have cc1 := hbk.of_cell (i := 1) rfl
    have hlt := hbk.lt
    clear hbk
    go_wp2
    exact bodyPost_ret (v := .tuple #[.agg #[.string ⟨#[]⟩, .string ⟨#[]⟩], .int .i64 1]) (by simp [results, Tryz.results17, go_sem, cc0, cc1, hlt]) rfl ⟨rfl, hbel⟩
  | true =>
    obtain ⟨n, m, rfl, rfl, hok⟩ := DivOk.of hv
    have hsd : sdOk l salt = true := by simp only [dvB, Bool.and_eq_true] at hv; exact hv.1
    have hR : cmR l salt n m random = (rt (ksL l salt), rt (khP l n m random l.length)) := by unfold cmR; rw [hv]; rfl
    rw [hR, if_pos rfl]
    rw [hv] at HDV
    have hl6 := hok.few
    have hm7 := hok.m7
    have hlm : l.length * m ≤ 4200 := Nat.le_trans (Nat.mul_le_mul hl6 hm7) (by omega)
    have HLV : Hid (∀ W, Below w.heap.size w W → _) := Lib.hid (fun W hW => kleaves_any A c l salt W (hA.below hW) hsd (hT.below hW))
    have HKV : Hid (∀ W, Below w.heap.size w W → _) := Lib.hid (fun W hW => kkept_any A c l salt n m B d random W (hA.below hW) (hB.below hW) hok hd hd2 (hT.below hW))
    have HR1 : Hid (∀ (Z : Option Addr) (cz : Nat) W, Strs W Z (ksL l salt) → l.length ≤ cz → Below w.heap.size w W → Calls Tryz.prog 43 #[.slice Z l.length cz] W fun e w' => e = .returned (.tuple #[.string (rt (ksL l salt)), .int .i64 0]) ∧ Below W.heap.size W w') := Lib.hid (fun Z cz W hZ hc hW => by
      have := root_any Z cz (ksL l salt) W (by rw [ksL_length]; omega) (by rw [ksL_length]; exact hc) hZ (ksL_sm l salt) (hT.below hW)
      rw [ksL_D, if_pos rfl, if_pos rfl, ksL_length] at this
      exact this)
    have HR2 : Hid (∀ (Z : Option Addr) (cz : Nat) W, Strs W Z (khP l n m random l.length) → l.length * m ≤ cz → Below w.heap.size w W → Calls Tryz.prog 43 #[.slice Z (l.length * m) cz] W fun e w' => e = .returned (.tuple #[.string (rt (khP l n m random l.length)), .int .i64 0]) ∧ Below W.heap.size W w') := Lib.hid (fun Z cz W hZ hc hW => by
      have := root_any Z cz (khP l n m random l.length) W (by rw [khP_length]; omega) (by rw [khP_length]; exact hc) hZ (khP_sm l n m random _) (hT.below hW)
      rw [khP_D, if_pos rfl, if_pos rfl, khP_length] at this
      exact this)
    have HL1 := Lib.hid (ksL_length l salt)
    have HL2 := Lib.hid (khP_length l n m random l.length)
    generalize rt (ksL l salt) = RA at *
    generalize rt (khP l n m random l.length) = RB at *
    generalize ksL l salt = LA at *
    generalize khP l n m random l.length = LB at *
    clear hv hR hA hB hok hsd hT
    obtain ⟨w0, hw0⟩ : ∃ w0, (w.alloc (.cells #[.string ⟨#[]⟩, .string ⟨#[]⟩] 29)).alloc (.cells #[.slice A l.length c, .string salt, .int .i64 n, .int .i64 m, .slice B random.length d] 88) = w0 := ⟨_, rfl⟩
    have HB0 : Hid (Below w.heap.size w w0) := Lib.hid (by rw [← hw0]; exact below_alloc (below_alloc (Below.refl _ _) _) _)
    have HKD : Hid (∀ W, Below w0.heap.size w0 W → Blk W (w.heap.size + 1) 88 #[.slice A l.length c, .string salt, .int .i64 n, .int .i64 m, .slice B random.length d] ∧ Blk W w.heap.size 29 #[.string ⟨#[]⟩, .string ⟨#[]⟩]) := Lib.hid (fun W hW => by
      have h1 : Blk w0 (w.heap.size + 1) 88 #[.slice A l.length c, .string salt, .int .i64 n, .int .i64 m, .slice B random.length d] := by rw [← hw0]; exact Blk.new _ _ _ _ (by simp)
      have h2 : Blk w0 w.heap.size 29 #[.string ⟨#[]⟩, .string ⟨#[]⟩] := by rw [← hw0]; exact (Blk.new w _ _ _ rfl).alloc _
      exact ⟨(hW.block _ h1.lt).trans h1, (hW.block _ h2.lt).trans h2⟩)
    have HDC : Hid (∀ W, Below w0.heap.size w0 W → W.cell? ⟨w.heap.size + 1, 0, none⟩ = some (.slice A l.length c) ∧ W.cell? ⟨w.heap.size + 1, 1, none⟩ = some (.string salt) ∧ W.cell? ⟨w.heap.size + 1, 2, none⟩ = some (.int .i64 n) ∧ W.cell? ⟨w.heap.size + 1, 3, none⟩ = some (.int .i64 m) ∧ W.cell? ⟨w.heap.size + 1, 4, none⟩ = some (.slice B random.length d) ∧ w.heap.size + 1 < W.heap.size) := Lib.hid (fun W hW => by
      have hb := (HKD.out W hW).1
      exact ⟨hb.of_cell (i := 0) rfl, hb.of_cell (i := 1) rfl, hb.of_cell (i := 2) rfl, hb.of_cell (i := 3) rfl, hb.of_cell (i := 4) rfl, hb.lt⟩)
    have HW0 := Lib.hid hw0
    clear hw0
    go_enter Tryz.func17, Tryz.ntmps17
    go_wp2_with fail
    have hw0 := HW0.out
    rw [hw0]
    clear hw0
    refine (HDV.out _ HB0.out).mono ?_
    rintro e w1 ⟨rfl, hb⟩
    have HX1 := Lib.hid hb
    clear hb
    obtain ⟨z0, z1, z2, z3, z4, zl⟩ := HDC.out w1 HX1.out
    go_wp2_with fail
    clear z0 z1 z2 z3 z4 zl
    refine (HLV.out w1 (below_trans HB0.out HX1.out)).mono ?_
    rintro e w2 ⟨v2, rfl, ho, hb⟩
    have HX2 := Lib.hid (below_trans HX1.out hb)
    obtain ⟨A2, c2, rfl, hc2, -, hr2⟩ := Rd.of_own ho
    have HS2 : Hid (Strs w2 A2 LA) := Lib.hid (by unfold Strs; rw [HL1.out]; exact hr2)
    clear ho hb hr2
    go_wp2_with fail
    refine (HR1.out A2 c2 w2 HS2.out hc2 (below_trans HB0.out HX2.out)).mono ?_
    rintro e w3 ⟨rfl, hb⟩
    have HX3 := Lib.hid (below_trans HX2.out hb)
    clear hb
    obtain ⟨z0, z1, z2, z3, z4, zl⟩ := HDC.out w3 HX3.out
    go_wp2_with fail
    clear z0 z1 z2 z3 z4 zl
    refine (HKV.out w3 (below_trans HB0.out HX3.out)).mono ?_
    rintro e w4 ⟨v4, rfl, ho, hb⟩
    have HX4 := Lib.hid (below_trans HX3.out hb)
    obtain ⟨A4, c4, rfl, hc4, -, hr4⟩ := Rd.of_own ho
    have HS4 : Hid (Strs w4 A4 LB) := Lib.hid (by unfold Strs; rw [HL2.out]; exact hr4)
    clear ho hb hr4
    go_wp2_with fail
    refine (HR2.out A4 c4 w4 HS4.out hc4 (below_trans HB0.out HX4.out)).mono ?_
    rintro e w5 ⟨rfl, hb⟩
    have HX5 := Lib.hid (below_trans HX4.out hb)
    have HBK := Lib.hid (HKD.out w5 HX5.out).2
    have HB5 := Lib.hid (below_trans HB0.out HX5.out)
    clear hb
    go_wp2_with (refine wpList_store_row rfl 29 (.tmp 10) (.tmp 43) rfl w.heap.size #[.string RA, .string RB] rfl rfl 29 #[.string ⟨#[]⟩, .string ⟨#[]⟩] HBK.out size_cm rfl (by simp [Value.oneCell']) ?_)
    have hbk := Blk.rowK HBK.out #[.string RA, .string RB]
    have hbel := below_setRow HB5.out (Nat.le_refl _) #[.string RA, .string RB]
    generalize w5.setRow w.heap.size _ = w6 at *
    have cc0 := hbk.of_cell (i := 0) rfl
    have cc1 := hbk.of_cell (i := 1) rfl
    have hlt := hbk.lt
    clear hbk
    go_wp2
    exact bodyPost_ret (v := .tuple #[.agg #[.string RA, .string RB], .int .i64 0]) (by simp [results, Tryz.results17, go_sem, cc0, cc1, hlt]) rfl ⟨rfl, hbel⟩
set_option maxRecDepth 100000 in
set_option maxHeartbeats 8000000 in
theorem kopen_bad (A : Option Addr) (c : Nat) (l : List Int) (salt : ByteArray) (i : Int) (w : World) (hA : Ints w A l) (hl : l.length ≤ 9223372036854775807) (hs : salt.size ≤ 9223372036854775807) (hbad : sdOk l salt = false ∨ wiB i 0 ((l.length : Int) - 1) = false) :
    Calls Tryz.prog 19 #[.slice A l.length c, .string salt, .int .i64 i] w fun e w' => e = .returned (.tuple #[.agg #[.int .i64 0, .int .i64 0, .string ⟨#[]⟩, .slice none 0 0], .int .i64 1]) ∧ Below w.heap.size w w' := by
  have HSV : Hid (∀ W, Below w.heap.size w W → _) := Lib.hid (fun W hW => ksval_any A c l salt W (hA.below hW) hl hs)
  obtain ⟨b1, hb1⟩ : ∃ b, sdOk l salt = b := ⟨_, rfl⟩
  obtain ⟨b2, hb2⟩ : ∃ b, wiB i 0 ((l.length : Int) - 1) = b := ⟨_, rfl⟩
  rw [hb1] at HSV
  rw [hb1, hb2] at hbad
  have HW2 := Lib.hid hb2
  have HBAD := Lib.hid hbad
  clear hA hb1 hb2 hbad
  cases b1
  case false =>
    go_enter Tryz.func19, Tryz.ntmps19
    go_wp2_with fail
    refine (HSV.out _ (below_alloc (below_alloc (Below.refl _ _) _) _)).mono ?_
    rintro e w1 ⟨rfl, hb⟩
    have HB1 := Lib.hid (below_trans (below_alloc (below_alloc (Below.refl _ _) _) _) hb)
    have HBK : Hid (Blk w1 w.heap.size 32 #[.int .i64 0, .int .i64 0, .string ⟨#[]⟩, .slice none 0 0]) := Lib.hid ((hb.block _ (by simp; omega)).trans ((Blk.new w _ _ _ rfl).alloc _))
    clear hb
    go_wp2_with (refine wpList_store_row rfl 32 (.tmp 6) (.tmp 25) rfl w.heap.size #[.int .i64 0, .int .i64 0, .string ⟨#[]⟩, .slice none 0 0] rfl rfl 32 #[.int .i64 0, .int .i64 0, .string ⟨#[]⟩, .slice none 0 0] HBK.out size_og rfl (by simp [Value.oneCell']) ?_)
    have hbk := Blk.rowK HBK.out #[.int .i64 0, .int .i64 0, .string ⟨#[]⟩, .slice none 0 0]
    have hbel := below_setRow HB1.out (Nat.le_refl _) #[.int .i64 0, .int .i64 0, .string ⟨#[]⟩, .slice none 0 0]
    generalize w1.setRow w.heap.size _ = w2 at *
    have cc0 := hbk.of_cell (i := 0) rfl
    have cc1 := hbk.of_cell (i := 1) rfl
    have cc2 := hbk.of_cell (i := 2) rfl
    have cc3 := hbk.of_cell (i := 3) rfl
    have hlt := hbk.lt
    clear hbk
    go_wp2
    exact bodyPost_ret (v := .tuple #[.agg #[.int .i64 0, .int .i64 0, .string ⟨#[]⟩, .slice none 0 0], .int .i64 1]) (by simp [results, Tryz.results19, go_sem, cc0, cc1, cc2, cc3, hlt]) rfl ⟨rfl, hbel⟩
  case true =>
    obtain rfl : b2 = false := by have := HBAD.out; simpa using this
    go_enter Tryz.func19, Tryz.ntmps19
    go_wp2_with fail
    refine (HSV.out _ (below_alloc (below_alloc (Below.refl _ _) _) _)).mono ?_
    rintro e w1 ⟨rfl, hb⟩
    have HB1 := Lib.hid (below_trans (below_alloc (below_alloc (Below.refl _ _) _) _) hb)
    have HBK : Hid (Blk w1 w.heap.size 32 #[.int .i64 0, .int .i64 0, .string ⟨#[]⟩, .slice none 0 0]) := Lib.hid ((hb.block _ (by simp; omega)).trans ((Blk.new w _ _ _ rfl).alloc _))
    clear hb
    go_wp2_with fail
    refine (kwithin_any _ _ _ _).mono ?_
    rintro e _ ⟨rfl, rfl⟩
    rw [HW2.out]
    go_wp2_with (refine wpList_store_row rfl 32 (.tmp 6) (.tmp 25) rfl w.heap.size #[.int .i64 0, .int .i64 0, .string ⟨#[]⟩, .slice none 0 0] rfl rfl 32 #[.int .i64 0, .int .i64 0, .string ⟨#[]⟩, .slice none 0 0] HBK.out size_og rfl (by simp [Value.oneCell']) ?_)
    have hbk := Blk.rowK HBK.out #[.int .i64 0, .int .i64 0, .string ⟨#[]⟩, .slice none 0 0]
    have hbel := below_setRow HB1.out (Nat.le_refl _) #[.int .i64 0, .int .i64 0, .string ⟨#[]⟩, .slice none 0 0]
    generalize w1.setRow w.heap.size _ = w2 at *
    have cc0 := hbk.of_cell (i := 0) rfl
    have cc1 := hbk.of_cell (i := 1) rfl
    have cc2 := hbk.of_cell (i := 2) rfl
    have cc3 := hbk.of_cell (i := 3) rfl
    have hlt := hbk.lt
    clear hbk
    go_wp2
    exact bodyPost_ret (v := .tuple #[.agg #[.int .i64 0, .int .i64 0, .string ⟨#[]⟩, .slice none 0 0], .int .i64 1]) (by simp [results, Tryz.results19, go_sem, cc0, cc1, cc2, cc3, hlt]) rfl ⟨rfl, hbel⟩
set_option maxRecDepth 100000 in
set_option maxHeartbeats 8000000 in
theorem kopen_ok (A : Option Addr) (c : Nat) (l : List Int) (salt : ByteArray) (i : Nat) (v : Int) (w : World) (hA : Ints w A l) (hs : salt.size ≤ 9223372036854775807) (hok : sdOk l salt = true) (hv : l[i]? = some v) (hT : Tabs w) :
    Calls Tryz.prog 19 #[.slice A l.length c, .string salt, .int .i64 i] w fun e w' => ∃ A' c', e = .returned (.tuple #[.agg #[.int .i64 i, .int .i64 v, .string (kslt salt i), .slice A' (pt (ksL l salt) i).length c'], .int .i64 0]) ∧ (pt (ksL l salt) i).length ≤ c' ∧ PathIn w' A' (pt (ksL l salt) i) ∧ Below w.heap.size w w' := by
  have hk := hok
  simp only [sdOk, Bool.and_eq_true, decide_eq_true_eq] at hk
  obtain ⟨hsv, hl1, hl6, hs4⟩ := hk
  have hi : i < l.length := (List.getElem?_eq_some_iff.1 hv).1
  have HT : Hid (∀ W, Below w.heap.size w W → Tabs W) := Lib.hid (fun W hW => hT.below hW)
  have HSV : Hid (∀ W, Below w.heap.size w W → _) := Lib.hid (fun W hW => ksval_any A c l salt W (hA.below hW) (by omega) hs)
  rw [hok] at HSV
  have HWI : Hid (wiB (i : Int) 0 ((l.length : Int) - 1) = true) := Lib.hid (decide_eq_true (by omega))
  have HLV : Hid (∀ W, Below w.heap.size w W → _) := Lib.hid (fun W hW => kleaves_any A c l salt W (hA.below hW) hok (hT.below hW))
  have HPT : Hid (∀ (Z : Option Addr) (cz : Nat) W, Strs W Z (ksL l salt) → l.length ≤ cz → Below w.heap.size w W → Calls Tryz.prog 53 #[.slice Z l.length cz, .int .i64 i] W fun e w' => ∃ A' c', e = .returned (.tuple #[.slice A' (pt (ksL l salt) i).length c', .int .i64 0]) ∧ (pt (ksL l salt) i).length ≤ c' ∧ PathIn w' A' (pt (ksL l salt) i) ∧ (∀ a, A' = some a → W.heap.size ≤ a.block) ∧ Below W.heap.size W w') := Lib.hid (fun Z cz W hZ hc hW => by
    have := tpath_any Z cz (ksL l salt) i W (by rw [ksL_length]; omega) (by rw [ksL_length]; exact hc) hZ (ksL_sm l salt) (hT.below hW) (ksL_D l salt) (by omega) (by rw [ksL_length]; omega)
    rw [Int.toNat_natCast, ksL_length] at this
    exact this.mono fun _ _ ⟨A', c', h1, h2, h3, h4, h5⟩ => ⟨A', c', h1, h2, ⟨h3, fun a ha => (h4 a ha).2.2⟩, fun a ha => (h4 a ha).1, h5⟩)
  have HA : Hid (∀ W, Below w.heap.size w W → Ints W A l) := Lib.hid (fun W hW => hA.below hW)
  have HL1 := Lib.hid (ksL_length l salt)
  have HV := Lib.hid hv
  generalize pt (ksL l salt) i = PT at *
  generalize ksL l salt = LA at *
  obtain ⟨bA, oA, rfl, hcA⟩ : ∃ b o, A = some ⟨b, o, none⟩ ∧ w.cell? ⟨b, o + i, none⟩ = some (.int .i64 v) := hA.at_ hv
  have HCA := Lib.hid hcA
  clear hsv hA hok hv hT hcA
  obtain ⟨w0, hw0⟩ : ∃ w0, (w.alloc (.cells #[.int .i64 0, .int .i64 0, .string ⟨#[]⟩, .slice none 0 0] 32)).alloc (.cells #[.slice (some ⟨bA, oA, none⟩) l.length c, .string salt] 86) = w0 := ⟨_, rfl⟩
  have HB0 : Hid (Below w.heap.size w w0) := Lib.hid (by rw [← hw0]; exact below_alloc (below_alloc (Below.refl _ _) _) _)
  have HK0 : Hid (Blk w0 (w.heap.size + 1) 86 #[.slice (some ⟨bA, oA, none⟩) l.length c, .string salt] ∧ Blk w0 w.heap.size 32 #[.int .i64 0, .int .i64 0, .string ⟨#[]⟩, .slice none 0 0] ∧ w0.heap.size = w.heap.size + 2) := Lib.hid (by
    rw [← hw0]
    exact ⟨Blk.new _ _ _ _ (by simp), (Blk.new w _ _ _ rfl).alloc _, by simp⟩)
  have HDC : Hid (∀ W, Chg [w.heap.size] w0 W → W.cell? ⟨w.heap.size + 1, 0, none⟩ = some (.slice (some ⟨bA, oA, none⟩) l.length c) ∧ W.cell? ⟨w.heap.size + 1, 1, none⟩ = some (.string salt) ∧ w.heap.size + 1 < W.heap.size) := Lib.hid (fun W hW => by
    have hb := HK0.out.1.chg hW (by simp)
    exact ⟨hb.of_cell (i := 0) rfl, hb.of_cell (i := 1) rfl, hb.lt⟩)
  have HW0 := Lib.hid hw0
  clear hw0
  go_enter Tryz.func19, Tryz.ntmps19
  go_wp2_with fail
  have hw0 := HW0.out
  rw [hw0]
  clear hw0
  refine (HSV.out _ HB0.out).mono ?_
  rintro e w1 ⟨rfl, hb⟩
  have HX1 := Lib.hid hb
  clear hb
  go_wp2_with fail
  refine (kwithin_any _ _ _ _).mono ?_
  rintro e _ ⟨rfl, rfl⟩
  rw [HWI.out]
  obtain ⟨z0, z1, zl⟩ := HDC.out w1 (Chg.of_below HX1.out _)
  go_wp2_with fail
  clear z0 z1 zl
  refine (HLV.out w1 (below_trans HB0.out HX1.out)).mono ?_
  rintro e w2 ⟨v2, rfl, ho, hb⟩
  have HX2 := Lib.hid (below_trans HX1.out hb)
  obtain ⟨A2, c2, rfl, hc2, -, hr2⟩ := Rd.of_own ho
  have HS2 : Hid (Strs w2 A2 LA) := Lib.hid (by unfold Strs; rw [HL1.out]; exact hr2)
  clear ho hb hr2
  go_wp2_with fail
  refine (HPT.out A2 c2 w2 HS2.out hc2 (below_trans HB0.out HX2.out)).mono ?_
  rintro e w3 ⟨A3, c3, rfl, hc3, hS3, hA3, hb⟩
  have HX3 := Lib.hid (below_trans HX2.out hb)
  have HS3 := Lib.hid hS3
  have HA3 : Hid (∀ a, A3 = some a → a.block ∉ [w.heap.size]) := Lib.hid (fun a ha h => by
    have h1 := hA3 a ha
    have h2 := HX2.out.size
    have h3 := HK0.out.2.2
    simp only [List.mem_cons, List.not_mem_nil, or_false] at h
    omega)
  clear hb hS3 hA3
  go_wp2_with fail
  refine wp_region_held_drew (S := fun W => Chg [w.heap.size] w0 W) (by kernel_rfl) ((Chg.of_below HX3.out _).drew) (fun hS0 => ?_)
  refine wpAnyH_take (i := 0) (v := ?_) rfl (by kernel_rfl) (by kernel_rfl) (by kernel_rfl) (fun _ _ _ h => h) (Or.inl ⟨by kernel_rfl, ?hy⟩) hS0 ?rest
  case hy => (intro W hSw; clear hSw; go_simp; with_reducible rfl)
  case rest =>
  refine wpAnyH_take (i := 1) (v := ?_) rfl (by kernel_rfl) (by kernel_rfl) (by kernel_rfl) (fun _ _ _ h => h) (Or.inl ⟨by kernel_rfl, ?hy⟩) hS0 ?rest
  case hy => (intro W hSw; clear hSw; go_simp; with_reducible rfl)
  case rest =>
  refine wpAnyH_take (i := 2) (v := ?_) rfl (by kernel_rfl) (by kernel_rfl) (by kernel_rfl) (fun _ _ _ h => h) (Or.inl ⟨by kernel_rfl, ?hy⟩) hS0 ?rest
  case hy => (intro W hSw; clear hSw; go_simp; with_reducible rfl)
  case rest =>
  refine wpAnyH_take (i := 3) (v := ?_) rfl (by kernel_rfl) (by kernel_rfl) (by kernel_rfl) (fun _ _ _ h => h) (Or.inl ⟨by kernel_rfl, ?hy⟩) hS0 ?rest
  case hy => (intro W hSw; clear hSw; go_simp; with_reducible rfl)
  case rest =>
  refine wpAnyH_take (i := 4) (v := ?_) rfl (by kernel_rfl) (by kernel_rfl) (by kernel_rfl) (fun _ _ _ h => h) (Or.inl ⟨by kernel_rfl, ?hy⟩) hS0 ?rest
  case hy => (intro W hSw; have z := hSw.cell (fun hm => by have h1 := lt_of_cell HCA.out; simp only [List.mem_cons, List.not_mem_nil, or_false] at hm; omega) (kept_cell HB0.out HCA.out); have zl := lt_of_cell z; clear hSw; go_simp; with_reducible rfl)
  case rest =>
  refine wpAnyH_take (i := 5) (v := ?_) rfl (by kernel_rfl) (by kernel_rfl) (by kernel_rfl) (fun _ _ _ h => h) (Or.inl ⟨by kernel_rfl, ?hy⟩) hS0 ?rest
  case hy => (intro W hSw; obtain ⟨z0, z1, zl⟩ := HDC.out W hSw; clear hSw; go_simp; with_reducible rfl)
  case rest =>
  try go_simp
  refine wpAnyH_take (i := 6) (v := ?_) rfl (by kernel_rfl) (by kernel_rfl) (by kernel_rfl) (fun _ _ _ h => h) (Or.inl ⟨by kernel_rfl, ?hy⟩) hS0 ?rest
  case hy => (intro W hSw; clear hSw; go_simp; with_reducible rfl)
  case rest =>
  refine wpAnyH_take (i := 8) (v := ?_) rfl (by kernel_rfl) (by kernel_rfl) (by kernel_rfl) (fun _ _ _ h => h) (Or.inl ⟨by kernel_rfl, ?hy⟩) hS0 ?rest
  case hy => (intro W hSw; clear hSw; go_simp; with_reducible rfl)
  case rest =>
  refine wpAnyH_ready (rs := [7]) (by kernel_rfl) (by simp) ?_
  refine AllReadyH.cons rfl (fun K hK => ?_) (AllReadyH.nil)
  go_simp
  refine (ksalted_any _ salt i _ hs4 (by omega) (HT.out _ (HB0.out.trans (hS0.below (fun k hk => by simp only [List.mem_cons, List.not_mem_nil, or_false] at hk; omega) (by have := HK0.out.2.2; omega))))).mono ?_
  rintro e w4 ⟨rfl, hb⟩
  have HC4 : Hid (Chg [w.heap.size] w0 w4) := Lib.hid (hS0.trans (Chg.of_below hb []) (by simp))
  have HS4 := Lib.hid ((show PathIn (World.drew w3) A3 PT from HS3.out).below hb)
  have HBK : Hid (Blk w4 w.heap.size 32 #[.int .i64 0, .int .i64 0, .string ⟨#[]⟩, .slice none 0 0]) := Lib.hid ((hb.block _ (show w.heap.size < (World.drew w3).heap.size from by have := HX3.out.size; have := HK0.out.2.2; show _ < w3.heap.size; omega)).trans (show Blk (World.drew w3) w.heap.size 32 _ from (HX3.out.block _ (by have := HK0.out.2.2; omega)).trans HK0.out.2.1))
  go_simp
  refine hK.out _ _ HC4.out (fun hS1 => ?_)
  clear hK K hb
  refine wpAnyH_take (i := 9) (v := ?_) rfl (by kernel_rfl) (by kernel_rfl) (by kernel_rfl) (fun _ _ _ h => h) (Or.inl ⟨by kernel_rfl, ?hy⟩) hS1 ?rest
  case hy => (intro W hSw; clear hSw; go_simp; with_reducible rfl)
  case rest =>
  refine wpAnyH_ready (rs := [10]) (by kernel_rfl) (by simp) ?_
  refine AllReadyH.cons rfl (fun K hK => ?_) (AllReadyH.nil)
  have f0 := HBK.out.of_cell (i := 0) rfl
  have f1 := HBK.out.of_cell (i := 1) rfl
  have f2 := HBK.out.of_cell (i := 2) rfl
  have f3 := HBK.out.of_cell (i := 3) rfl
  have g0 := HBK.out.frozen 0
  have g1 := HBK.out.frozen 1
  have g2 := HBK.out.frozen 2
  have g3 := HBK.out.frozen 3
  have gl := HBK.out.lt
  have hbk2 := (((HBK.out.set 0 (.int .i64 i)).set 1 (.int .i64 v)).set 2 (.string (kslt salt i))).set 3 (.slice A3 PT.length c3)
  have HBK2 := Lib.hid hbk2
  clear hbk2
  go_simp
  refine hK.out _ _ ((((HC4.out.setCell (.inl (by simp)) _).setCell (.inl (by simp)) _).setCell (.inl (by simp)) _).setCell (.inl (by simp)) _) (fun hS2 => ?_)
  clear hK K f0 f1 f2 f3 g0 g1 g2 g3 gl
  refine wpAnyH_take (i := 11) (v := ?_) rfl (by kernel_rfl) (by kernel_rfl) (by kernel_rfl) (fun _ _ _ h => h) (Or.inl ⟨by kernel_rfl, ?hy⟩) hS2 ?rest
  case hy => (intro W hSw; clear hSw; go_simp; with_reducible rfl)
  case rest =>
  refine wpAnyH_done (by kernel_rfl) ?_ _
  have HCF := Lib.hid hS2
  clear hS2
  have HSF := Lib.hid (HS4.out.chg (F := [w.heap.size]) ((((((Chg.refl [w.heap.size] w4).setCell (p := ⟨w.heap.size, 0, none⟩) (.inl (by simp)) (.int .i64 i)).setCell (p := ⟨w.heap.size, 1, none⟩) (.inl (by simp)) (.int .i64 v)).setCell (p := ⟨w.heap.size, 2, none⟩) (.inl (by simp)) (.string (kslt salt i))).setCell (p := ⟨w.heap.size, 3, none⟩) (.inl (by simp)) (.slice A3 PT.length c3))) HA3.out)
  generalize (((w4.setCell ⟨w.heap.size, 0, none⟩ (.int .i64 i)).setCell ⟨w.heap.size, 1, none⟩ (.int .i64 v)).setCell ⟨w.heap.size, 2, none⟩ (.string (kslt salt i))).setCell ⟨w.heap.size, 3, none⟩ (.slice A3 PT.length c3) = w6 at *
  have hbk := HBK2.out
  have cc0 := hbk.of_cell (i := 0) rfl
  have cc1 := hbk.of_cell (i := 1) rfl
  have cc2 := hbk.of_cell (i := 2) rfl
  have cc3 := hbk.of_cell (i := 3) rfl
  have hlt := hbk.lt
  clear hbk
  go_wp2
  exact bodyPost_ret (v := .tuple #[.agg #[.int .i64 i, .int .i64 v, .string (kslt salt i), .slice A3 PT.length c3], .int .i64 0]) (by simp [results, Tryz.results19, go_sem, cc0, cc1, cc2, cc3, hlt]) rfl ⟨_, _, rfl, hc3, HSF.out, HB0.out.trans (HCF.out.below (fun k hk => by simp only [List.mem_cons, List.not_mem_nil, or_false] at hk; omega) (by have := HK0.out.2.2; omega))⟩
set_option maxRecDepth 100000 in
set_option maxHeartbeats 8000000 in
theorem kkeep_bad (A : Option Addr) (c : Nat) (l : List Int) (need total : Int) (B : Option Addr) (d : Nat) (random : List Int) (i k : Int) (w : World) (hA : Ints w A l) (hB : Ints w B random) (hl : l.length ≤ 9223372036854775807) (hr : random.length ≤ 9223372036854775807) (hbad : dvB l ⟨#[]⟩ need total random = false ∨ wiB i 0 ((l.length : Int) - 1) = false ∨ wiB k 0 (total - 1) = false) :
    Calls Tryz.prog 21 #[.slice A l.length c, .int .i64 need, .int .i64 total, .slice B random.length d, .int .i64 i, .int .i64 k] w fun e w' => e = .returned (.tuple #[.agg #[.int .i64 0, .int .i64 0, .int .i64 0, .slice none 0 0], .int .i64 1]) ∧ Below w.heap.size w w' := by
  have HDV : Hid (∀ W, Below w.heap.size w W → _) := Lib.hid (fun W hW => kdval_any A c l ⟨#[]⟩ need total B d random W (hA.below hW) (hB.below hW) hl (by decide) hr)
  have HTT : Hid (dvB l ⟨#[]⟩ need total random = true → 1 ≤ total ∧ total ≤ 7) := Lib.hid (fun h => by
    obtain ⟨n, m, rfl, rfl, hok⟩ := DivOk.of h
    have := hok.one; have := hok.le; have := hok.m7; omega)
  obtain ⟨b1, hb1⟩ : ∃ b, dvB l ⟨#[]⟩ need total random = b := ⟨_, rfl⟩
  obtain ⟨b2, hb2⟩ : ∃ b, wiB i 0 ((l.length : Int) - 1) = b := ⟨_, rfl⟩
  obtain ⟨b3, hb3⟩ : ∃ b, wiB k 0 (total - 1) = b := ⟨_, rfl⟩
  rw [hb1] at HDV HTT
  rw [hb1, hb2, hb3] at hbad
  have HW2 := Lib.hid hb2
  have HW3 := Lib.hid hb3
  have HBAD := Lib.hid hbad
  clear hA hB hb1 hb2 hb3 hbad
  cases b1
  case false =>
    go_enter Tryz.func21, Tryz.ntmps21
    go_wp2_with fail
    refine (HDV.out _ (below_alloc (below_alloc (Below.refl _ _) _) _)).mono ?_
    rintro e w1 ⟨rfl, hb⟩
    have HB1 := Lib.hid (below_trans (below_alloc (below_alloc (Below.refl _ _) _) _) hb)
    have HBK : Hid (Blk w1 w.heap.size 50 #[.int .i64 0, .int .i64 0, .int .i64 0, .slice none 0 0]) := Lib.hid ((hb.block _ (by simp; omega)).trans ((Blk.new w _ _ _ rfl).alloc _))
    clear hb
    go_wp2_with (refine wpList_store_row rfl 50 (.tmp 12) (.tmp 41) rfl w.heap.size #[.int .i64 0, .int .i64 0, .int .i64 0, .slice none 0 0] rfl rfl 50 #[.int .i64 0, .int .i64 0, .int .i64 0, .slice none 0 0] HBK.out size_kp rfl (by simp [Value.oneCell']) ?_)
    have hbk := Blk.rowK HBK.out #[.int .i64 0, .int .i64 0, .int .i64 0, .slice none 0 0]
    have hbel := below_setRow HB1.out (Nat.le_refl _) #[.int .i64 0, .int .i64 0, .int .i64 0, .slice none 0 0]
    generalize w1.setRow w.heap.size _ = w2 at *
    have cc0 := hbk.of_cell (i := 0) rfl
    have cc1 := hbk.of_cell (i := 1) rfl
    have cc2 := hbk.of_cell (i := 2) rfl
    have cc3 := hbk.of_cell (i := 3) rfl
    have hlt := hbk.lt
    clear hbk
    go_wp2
    exact bodyPost_ret (v := .tuple #[.agg #[.int .i64 0, .int .i64 0, .int .i64 0, .slice none 0 0], .int .i64 1]) (by simp [results, Tryz.results21, go_sem, cc0, cc1, cc2, cc3, hlt]) rfl ⟨rfl, hbel⟩
  case true =>
  obtain ⟨ht1, ht7⟩ := HTT.out (by trivial)
  cases b2
  case false =>
    go_enter Tryz.func21, Tryz.ntmps21
    go_wp2_with fail
    refine (HDV.out _ (below_alloc (below_alloc (Below.refl _ _) _) _)).mono ?_
    rintro e w1 ⟨rfl, hb⟩
    have HB1 := Lib.hid (below_trans (below_alloc (below_alloc (Below.refl _ _) _) _) hb)
    have HBK : Hid (Blk w1 w.heap.size 50 #[.int .i64 0, .int .i64 0, .int .i64 0, .slice none 0 0]) := Lib.hid ((hb.block _ (by simp; omega)).trans ((Blk.new w _ _ _ rfl).alloc _))
    clear hb
    go_wp2_with fail
    refine (kwithin_any _ _ _ _).mono ?_
    rintro e _ ⟨rfl, rfl⟩
    rw [HW2.out]
    go_wp2_with (refine wpList_store_row rfl 50 (.tmp 12) (.tmp 41) rfl w.heap.size #[.int .i64 0, .int .i64 0, .int .i64 0, .slice none 0 0] rfl rfl 50 #[.int .i64 0, .int .i64 0, .int .i64 0, .slice none 0 0] HBK.out size_kp rfl (by simp [Value.oneCell']) ?_)
    have hbk := Blk.rowK HBK.out #[.int .i64 0, .int .i64 0, .int .i64 0, .slice none 0 0]
    have hbel := below_setRow HB1.out (Nat.le_refl _) #[.int .i64 0, .int .i64 0, .int .i64 0, .slice none 0 0]
    generalize w1.setRow w.heap.size _ = w2 at *
    have cc0 := hbk.of_cell (i := 0) rfl
    have cc1 := hbk.of_cell (i := 1) rfl
    have cc2 := hbk.of_cell (i := 2) rfl
    have cc3 := hbk.of_cell (i := 3) rfl
    have hlt := hbk.lt
    clear hbk
    go_wp2
    exact bodyPost_ret (v := .tuple #[.agg #[.int .i64 0, .int .i64 0, .int .i64 0, .slice none 0 0], .int .i64 1]) (by simp [results, Tryz.results21, go_sem, cc0, cc1, cc2, cc3, hlt]) rfl ⟨rfl, hbel⟩
  case true =>
  obtain rfl : b3 = false := by have := HBAD.out; simpa using this
  go_enter Tryz.func21, Tryz.ntmps21
  go_wp2_with fail
  refine (HDV.out _ (below_alloc (below_alloc (Below.refl _ _) _) _)).mono ?_
  rintro e w1 ⟨rfl, hb⟩
  have HB1 := Lib.hid (below_trans (below_alloc (below_alloc (Below.refl _ _) _) _) hb)
  have HBK : Hid (Blk w1 w.heap.size 50 #[.int .i64 0, .int .i64 0, .int .i64 0, .slice none 0 0]) := Lib.hid ((hb.block _ (by simp; omega)).trans ((Blk.new w _ _ _ rfl).alloc _))
  clear hb
  go_wp2_with fail
  refine (kwithin_any _ _ _ _).mono ?_
  rintro e _ ⟨rfl, rfl⟩
  rw [HW2.out]
  go_wp2_with fail
  refine (kwithin_any _ _ _ _).mono ?_
  rintro e _ ⟨rfl, rfl⟩
  rw [HW3.out]
  go_wp2_with (refine wpList_store_row rfl 50 (.tmp 12) (.tmp 41) rfl w.heap.size #[.int .i64 0, .int .i64 0, .int .i64 0, .slice none 0 0] rfl rfl 50 #[.int .i64 0, .int .i64 0, .int .i64 0, .slice none 0 0] HBK.out size_kp rfl (by simp [Value.oneCell']) ?_)
  have hbk := Blk.rowK HBK.out #[.int .i64 0, .int .i64 0, .int .i64 0, .slice none 0 0]
  have hbel := below_setRow HB1.out (Nat.le_refl _) #[.int .i64 0, .int .i64 0, .int .i64 0, .slice none 0 0]
  generalize w1.setRow w.heap.size _ = w2 at *
  have cc0 := hbk.of_cell (i := 0) rfl
  have cc1 := hbk.of_cell (i := 1) rfl
  have cc2 := hbk.of_cell (i := 2) rfl
  have cc3 := hbk.of_cell (i := 3) rfl
  have hlt := hbk.lt
  clear hbk
  go_wp2
  exact bodyPost_ret (v := .tuple #[.agg #[.int .i64 0, .int .i64 0, .int .i64 0, .slice none 0 0], .int .i64 1]) (by simp [results, Tryz.results21, go_sem, cc0, cc1, cc2, cc3, hlt]) rfl ⟨rfl, hbel⟩
set_option maxRecDepth 100000 in
set_option maxHeartbeats 8000000 in
theorem kkeep_ok (A : Option Addr) (c : Nat) (l : List Int) (n m : Nat) (B : Option Addr) (d : Nat) (random : List Int) (i k : Nat) (w : World) (hA : Ints w A l) (hB : Ints w B random) (hd : random.length ≤ d) (hd2 : d ≤ 9223372036854775807) (hdv : dvB l ⟨#[]⟩ (n : Int) (m : Int) random = true) (hi : i < l.length) (hk : k < m) (hT : Tabs w) :
    Calls Tryz.prog 21 #[.slice A l.length c, .int .i64 n, .int .i64 m, .slice B random.length d, .int .i64 i, .int .i64 k] w fun e w' => ∃ A' c', e = .returned (.tuple #[.agg #[.int .i64 i, .int .i64 ((k : Int) + 1), .int .i64 (evp (kpoly l n random i) ((k : Int) + 1)), .slice A' (pt (khP l n m random l.length) (i * m + k)).length c'], .int .i64 0]) ∧ (pt (khP l n m random l.length) (i * m + k)).length ≤ c' ∧ PathIn w' A' (pt (khP l n m random l.length) (i * m + k)) ∧ Below w.heap.size w w' := by
  obtain ⟨n', m', hn', hm', hok⟩ := DivOk.of hdv
  obtain rfl : n = n' := by omega
  obtain rfl : m = m' := by omega
  have hl6 := hok.few
  have hm7 := hok.m7
  have hlm : l.length * m ≤ 4200 := Nat.le_trans (Nat.mul_le_mul hl6 hm7) (by omega)
  have him : i * m + k < l.length * m := by
    have : (i + 1) * m ≤ l.length * m := Nat.mul_le_mul_right m hi
    rw [Nat.add_mul] at this; omega
  have HT : Hid (∀ W, Below w.heap.size w W → Tabs W) := Lib.hid (fun W hW => hT.below hW)
  have HDV : Hid (∀ W, Below w.heap.size w W → _) := Lib.hid (fun W hW => kdval_any A c l ⟨#[]⟩ n m B d random W (hA.below hW) (hB.below hW) (by omega) (by decide) (by omega))
  rw [hdv] at HDV
  have HW2 : Hid (wiB (i : Int) 0 ((l.length : Int) - 1) = true) := Lib.hid (decide_eq_true (by omega))
  have HW3 : Hid (wiB (k : Int) 0 ((m : Int) - 1) = true) := Lib.hid (decide_eq_true (by omega))
  have HKV : Hid (∀ W, Below w.heap.size w W → _) := Lib.hid (fun W hW => kkept_any A c l ⟨#[]⟩ n m B d random W (hA.below hW) (hB.below hW) hok hd hd2 (hT.below hW))
  have HOF : Hid (∀ W, Below w.heap.size w W → _) := Lib.hid (fun W hW => kof_any A c l ⟨#[]⟩ n m B d random i W (hA.below hW) (hB.below hW) hok hd hd2 hi)
  have HPT : Hid (∀ (Z : Option Addr) (cz q : Nat) W, q = i * m + k → Strs W Z (khP l n m random l.length) → l.length * m ≤ cz → Below w.heap.size w W → Calls Tryz.prog 53 #[.slice Z (l.length * m) cz, .int .i64 (q : Int)] W fun e w' => ∃ A' c', e = .returned (.tuple #[.slice A' (pt (khP l n m random l.length) (i * m + k)).length c', .int .i64 0]) ∧ (pt (khP l n m random l.length) (i * m + k)).length ≤ c' ∧ PathIn w' A' (pt (khP l n m random l.length) (i * m + k)) ∧ (∀ a, A' = some a → W.heap.size ≤ a.block) ∧ Below W.heap.size W w') := Lib.hid (fun Z cz q W hq hZ hc hW => by
    subst hq
    have := tpath_any Z cz (khP l n m random l.length) ((i * m + k : Nat) : Int) W (by rw [khP_length]; omega) (by rw [khP_length]; exact hc) hZ (khP_sm l n m random _) (hT.below hW) (khP_D l n m random _) (by omega) (by rw [khP_length]; omega)
    rw [Int.toNat_natCast, khP_length] at this
    exact this.mono fun _ _ ⟨A', c', h1, h2, h3, h4, h5⟩ => ⟨A', c', h1, h2, ⟨h3, fun a ha => (h4 a ha).2.2⟩, fun a ha => (h4 a ha).1, h5⟩)
  have HL2 := Lib.hid (khP_length l n m random l.length)
  have HOG := Lib.hid (kof_get l n m random i k hk)
  have HOL := Lib.hid (kof_length l n m random i)
  obtain ⟨q, hq⟩ : ∃ q, i * m + k = q := ⟨_, rfl⟩
  obtain ⟨q0, hq0⟩ : ∃ q, i * m = q := ⟨_, rfl⟩
  have e1 : (i : Int) * (m : Int) = (q0 : Int) := by rw [← Int.natCast_mul, hq0]
  have e2 : (q0 : Int) + (k : Int) = (q : Int) := by omega
  have HE := Lib.hid (And.intro e1 e2)
  have HQ := Lib.hid hq
  have hq4 : q ≤ 4200 := by omega
  have hq04 : q0 ≤ 4200 := by omega
  generalize pt (khP l n m random l.length) (i * m + k) = PT at *
  generalize khP l n m random l.length = LB at *
  generalize kof l n m random i = SH at *
  generalize evp (kpoly l n random i) ((k : Int) + 1) = y at *
  obtain ⟨w0, hw0⟩ : ∃ w0, (w.alloc (.cells #[.int .i64 0, .int .i64 0, .int .i64 0, .slice none 0 0] 50)).alloc (.cells #[.slice A l.length c, .string ⟨#[]⟩, .int .i64 n, .int .i64 m, .slice B random.length d] 88) = w0 := ⟨_, rfl⟩
  have HB0 : Hid (Below w.heap.size w w0) := Lib.hid (by rw [← hw0]; exact below_alloc (below_alloc (Below.refl _ _) _) _)
  have HK0 : Hid (Blk w0 (w.heap.size + 1) 88 #[.slice A l.length c, .string ⟨#[]⟩, .int .i64 n, .int .i64 m, .slice B random.length d] ∧ Blk w0 w.heap.size 50 #[.int .i64 0, .int .i64 0, .int .i64 0, .slice none 0 0] ∧ w0.heap.size = w.heap.size + 2) := Lib.hid (by
    rw [← hw0]
    exact ⟨Blk.new _ _ _ _ (by simp), (Blk.new w _ _ _ rfl).alloc _, by simp⟩)
  have HDC : Hid (∀ W, Below w0.heap.size w0 W → W.cell? ⟨w.heap.size + 1, 0, none⟩ = some (.slice A l.length c) ∧ W.cell? ⟨w.heap.size + 1, 1, none⟩ = some (.string ⟨#[]⟩) ∧ W.cell? ⟨w.heap.size + 1, 2, none⟩ = some (.int .i64 n) ∧ W.cell? ⟨w.heap.size + 1, 3, none⟩ = some (.int .i64 m) ∧ W.cell? ⟨w.heap.size + 1, 4, none⟩ = some (.slice B random.length d) ∧ w.heap.size + 1 < W.heap.size) := Lib.hid (fun W hW => by
    have hb : Blk W (w.heap.size + 1) 88 _ := (hW.block _ HK0.out.1.lt).trans HK0.out.1
    exact ⟨hb.of_cell (i := 0) rfl, hb.of_cell (i := 1) rfl, hb.of_cell (i := 2) rfl, hb.of_cell (i := 3) rfl, hb.of_cell (i := 4) rfl, hb.lt⟩)
  have HW0 := Lib.hid hw0
  clear hw0 hA hB hT hok hdv hn' hm' hq hq0 e1 e2 him hlm
  go_enter Tryz.func21, Tryz.ntmps21
  go_wp2_with fail
  have hw0 := HW0.out
  rw [hw0]
  clear hw0
  refine (HDV.out _ HB0.out).mono ?_
  rintro e w1 ⟨rfl, hb⟩
  have HX1 := Lib.hid hb
  clear hb
  go_wp2_with fail
  refine (kwithin_any _ _ _ _).mono ?_
  rintro e _ ⟨rfl, rfl⟩
  rw [HW2.out]
  go_wp2_with fail
  refine (kwithin_any _ _ _ _).mono ?_
  rintro e _ ⟨rfl, rfl⟩
  rw [HW3.out]
  obtain ⟨z0, z1, z2, z3, z4, zl⟩ := HDC.out w1 HX1.out
  go_wp2_with fail
  clear z0 z1 z2 z3 z4 zl
  refine (HKV.out w1 (below_trans HB0.out HX1.out)).mono ?_
  rintro e w2 ⟨v2, rfl, ho, hb⟩
  have HX2 := Lib.hid (below_trans HX1.out hb)
  obtain ⟨A2, c2, rfl, hc2, -, hr2⟩ := Rd.of_own ho
  have HS2 : Hid (Strs w2 A2 LB) := Lib.hid (by unfold Strs; rw [HL2.out]; exact hr2)
  clear ho hb hr2
  obtain ⟨e1, e2⟩ := HE.out
  go_wp2_with fail
  clear e1 e2
  refine (HPT.out A2 c2 q w2 HQ.out.symm HS2.out hc2 (below_trans HB0.out HX2.out)).mono ?_
  rintro e w3 ⟨A3, c3, rfl, hc3, hS3, hA3, hb⟩
  have HX3 := Lib.hid (below_trans HX2.out hb)
  have HS3 := Lib.hid hS3
  have HA3 : Hid (∀ a, A3 = some a → a.block ∉ [w.heap.size]) := Lib.hid (fun a ha h => by
    have h1 := hA3 a ha
    have h2 := HX2.out.size
    have h3 := HK0.out.2.2
    simp only [List.mem_cons, List.not_mem_nil, or_false] at h
    omega)
  clear hb hS3 hA3
  obtain ⟨z0, z1, z2, z3, z4, zl⟩ := HDC.out w3 HX3.out
  go_wp2_with fail
  clear z0 z1 z2 z3 z4 zl
  refine (HOF.out w3 (below_trans HB0.out HX3.out)).mono ?_
  rintro e w4 ⟨v4, rfl, ho, hb⟩
  have HX4 := Lib.hid (below_trans HX3.out hb)
  have HS4 := Lib.hid (HS3.out.below hb)
  obtain ⟨A4, c4, rfl, -, -, hr4⟩ := Rd.of_own ho
  have hpr : Prs w4 A4 SH := by unfold Prs; rw [HOL.out]; exact hr4
  obtain ⟨bS, oS, rfl, q1, q2⟩ := hpr.at_ HOG.out
  simp only at q1 q2
  have ql := lt_of_cell q1
  have HBK : Hid (Blk w4 w.heap.size 50 #[.int .i64 0, .int .i64 0, .int .i64 0, .slice none 0 0]) := Lib.hid ((HX4.out.block _ (by have := HK0.out.2.2; omega)).trans HK0.out.2.1)
  have HB4 := Lib.hid (below_trans HB0.out HX4.out)
  clear ho hb hr4 hpr
  go_wp2_with (refine wpList_store_row rfl 50 (.tmp 12) (.tmp 61) rfl w.heap.size #[.int .i64 i, .int .i64 ((k : Int) + 1), .int .i64 y, .slice A3 PT.length c3] rfl rfl 50 #[.int .i64 0, .int .i64 0, .int .i64 0, .slice none 0 0] HBK.out size_kp rfl (by simp [Value.oneCell']) ?_)
  have hbk := Blk.rowK HBK.out #[.int .i64 i, .int .i64 ((k : Int) + 1), .int .i64 y, .slice A3 PT.length c3]
  have hbel := below_setRow HB4.out (Nat.le_refl _) #[.int .i64 i, .int .i64 ((k : Int) + 1), .int .i64 y, .slice A3 PT.length c3]
  have HSF : Hid (PathIn (w4.setRow w.heap.size #[.int .i64 i, .int .i64 ((k : Int) + 1), .int .i64 y, .slice A3 PT.length c3]) A3 PT) := Lib.hid (HS4.out.chg (F := [w.heap.size]) ⟨rfl, rfl, rfl, by simp [World.setRow], fun k _ hn => setRow_other w4 w.heap.size k _ (by simpa using hn)⟩ HA3.out)
  generalize w4.setRow w.heap.size _ = w5 at *
  clear q1 q2 ql
  have cc0 := hbk.of_cell (i := 0) rfl
  have cc1 := hbk.of_cell (i := 1) rfl
  have cc2 := hbk.of_cell (i := 2) rfl
  have cc3 := hbk.of_cell (i := 3) rfl
  have hlt := hbk.lt
  clear hbk
  go_wp2
  exact bodyPost_ret (v := .tuple #[.agg #[.int .i64 i, .int .i64 ((k : Int) + 1), .int .i64 y, .slice A3 PT.length c3], .int .i64 0]) (by simp [results, Tryz.results21, go_sem, cc0, cc1, cc2, cc3, hlt]) rfl ⟨_, _, rfl, hc3, HSF.out, hbel⟩
end

section
open Go.RowKit Go.Maps Go.ChangeShapes

set_option maxRecDepth 100000 in
theorem Seen.lookB {w : World} {B n : Nat} {xs : List Int} (h : Seen w B n xs) (x : Int) (hx : elemB x = true) :
    (Instr.lookup 134 (.map (some B)) (.int .i64 x) false).run Tryz.prog w = .ok (.bool (decide (x ∈ xs))) w := by
  obtain ⟨D, h1, h2, h3⟩ := h
  obtain ⟨v, ps, hr, hv⟩ := h1.lookup intKeyed Tryz.underlying134 (zeroBool w) (plainElem_bool Tryz.underlying4 false) (keyOf_int_mk Tryz.underlying3 (wf_elem hx))
  rw [h3 x] at hv
  have : v = .bool (decide (x ∈ xs)) := by
    unfold plainElem at hv
    rw [Tryz.underlying4] at hv
    cases v <;> simp at hv
    rw [hv.1]
  rw [hr, this]

/-- What an opening asks of memory to be checked. -/
structure OgFit (w : World) (o : Og) : Prop where
  p : Strs w o.A o.p
  pl : o.p.length ≤ 1000000
  ps : ∀ s, s ∈ o.p → s.size ≤ 1000000000
  salt : o.salt.size ≤ 1000000000
  ix : i64ok o.ix
  v : i64ok o.v
theorem OgFit.below {w w' : World} {o : Og} (h : OgFit w o) (hb : Below w.heap.size w w') : OgFit w' o := ⟨h.p.below hb, h.pl, h.ps, h.salt, h.ix, h.v⟩
structure KpFit (w : World) (k : Kp) : Prop where
  p : Strs w k.A k.p
  pl : k.p.length ≤ 1000000
  ps : ∀ s, s ∈ k.p → s.size ≤ 1000000000
  ix : i64ok k.ix
  x : i64ok k.s.1
  y : i64ok k.s.2
theorem KpFit.below {w w' : World} {o : Kp} (h : KpFit w o) (hb : Below w.heap.size w w') : KpFit w' o := ⟨h.p.below hb, h.pl, h.ps, h.ix, h.x, h.y⟩
set_option maxRecDepth 100000 in
set_option maxHeartbeats 8000000 in
theorem kcheck_any (cm : ByteArray × ByteArray) (n : Int) (o : Og) (w : World) (hO : OgFit w o) (hn : i64ok n) (hT : Tabs w) :
    Calls Tryz.prog 27 #[.agg #[.string cm.1, .string cm.2], .int .i64 n, .agg #[.int .i64 o.ix, .int .i64 o.v, .string o.salt, .slice o.A o.p.length o.c]] w fun e w' => e = .returned (.bool (ckB cm.1 n o.ix o.v o.salt o.p)) ∧ Below w.heap.size w w' := by
  obtain ⟨w0, hw0⟩ : ∃ w0, (w.alloc (.cells #[.string cm.1, .string cm.2] 29)).alloc (.cells #[.int .i64 o.ix, .int .i64 o.v, .string o.salt, .slice o.A o.p.length o.c] 32) = w0 := ⟨_, rfl⟩
  have HB0 : Hid (Below w.heap.size w w0) := Lib.hid (by rw [← hw0]; exact below_alloc (below_alloc (Below.refl _ _) _) _)
  have HK : Hid (∀ W, Below w0.heap.size w0 W → W.cell? ⟨w.heap.size, 0, none⟩ = some (.string cm.1) ∧ W.cell? ⟨w.heap.size + 1, 0, none⟩ = some (.int .i64 o.ix) ∧ W.cell? ⟨w.heap.size + 1, 1, none⟩ = some (.int .i64 o.v) ∧ W.cell? ⟨w.heap.size + 1, 2, none⟩ = some (.string o.salt) ∧ W.cell? ⟨w.heap.size + 1, 3, none⟩ = some (.slice o.A o.p.length o.c) ∧ w.heap.size + 1 < W.heap.size) := Lib.hid (fun W hW => by
    have h1 : Blk w0 (w.heap.size + 1) 32 #[.int .i64 o.ix, .int .i64 o.v, .string o.salt, .slice o.A o.p.length o.c] := by rw [← hw0]; exact Blk.new _ _ _ _ (by simp)
    have h2 : Blk w0 w.heap.size 29 #[.string cm.1, .string cm.2] := by rw [← hw0]; exact (Blk.new w _ _ _ rfl).alloc _
    have h0 := kept_cell hW (h1.of_cell (i := 0) rfl)
    exact ⟨kept_cell hW (h2.of_cell (i := 0) rfl), h0, kept_cell hW (h1.of_cell (i := 1) rfl), kept_cell hW (h1.of_cell (i := 2) rfl), kept_cell hW (h1.of_cell (i := 3) rfl), lt_of_cell h0⟩)
  have HT : Hid (∀ W, Below w.heap.size w W → Tabs W) := Lib.hid (fun W hW => hT.below hW)
  obtain ⟨nlo, nhi⟩ := hn
  obtain ⟨r, hr⟩ : ∃ r, ckB cm.1 n o.ix o.v o.salt o.p = r := ⟨_, rfl⟩
  have HN1 : Hid (wiB n 1 600 = false → r = false) := Lib.hid (fun h => by
    have h := of_decide_eq_false h
    rw [← hr]; unfold ckB; rw [decide_eq_false (by omega)]; rfl)
  have HN2 : Hid (wiB o.ix 0 (n - 1) = false → r = false) := Lib.hid (fun h => by
    have h := of_decide_eq_false h
    rw [← hr]; unfold ckB; rw [decide_eq_false (by omega)]; rfl)
  have HN3 : Hid (wiB o.v 0 719 = false → r = false) := Lib.hid (fun h => by
    have h := of_decide_eq_false h
    rw [← hr]; unfold ckB; rw [decide_eq_false (by omega)]; rfl)
  have HN4 : Hid (isD o.salt = false → r = false) := Lib.hid (fun h => by rw [← hr]; unfold ckB; rw [h]; simp)
  have HY : Hid (wiB n 1 600 = true → wiB o.ix 0 (n - 1) = true → wiB o.v 0 719 = true → isD o.salt = true → r = chkB cm.1 n o.ix (ksLf o.ix.toNat o.v.toNat o.salt) o.p) := Lib.hid (fun h1 h2 h3 h4 => by
    have h1 := of_decide_eq_true h1
    have h2 := of_decide_eq_true h2
    have h3 := of_decide_eq_true h3
    rw [← hr]; unfold ckB; rw [decide_eq_true (by omega), h4]; rfl)
  have HIS : Hid (∀ W : World, _) := Lib.hid (fun W => is_any o.salt W hO.salt)
  have HLF : Hid (∀ (i v : Nat) W, i ≤ 1000000 → v ≤ 1000000 → isD o.salt = true → Below w.heap.size w W → _) := Lib.hid (fun i v W hi hv hd hW => kleaf_any i v o.salt W hi hv (by have := isD_16 hd; omega) (hT.below hW))
  have HTC : Hid (∀ (m i : Int) (lf : ByteArray) W, lf.size ≤ 1000000000 → Below w.heap.size w W → _) := Lib.hid (fun m i lf W hlf hW => tcheck_any cm.1 m i lf o.A o.c o.p W (hT.below hW) (hO.p.below hW) hO.pl hlf hO.ps)
  rw [hr]
  obtain ⟨b1, hb1⟩ : ∃ b, wiB n 1 600 = b := ⟨_, rfl⟩
  obtain ⟨b2, hb2⟩ : ∃ b, wiB o.ix 0 (n - 1) = b := ⟨_, rfl⟩
  obtain ⟨b3, hb3⟩ : ∃ b, wiB o.v 0 719 = b := ⟨_, rfl⟩
  obtain ⟨b4, hb4⟩ : ∃ b, isD o.salt = b := ⟨_, rfl⟩
  rw [hb1] at HN1 HY
  rw [hb2] at HN2 HY
  rw [hb3] at HN3 HY
  rw [hb4] at HN4 HY HIS HLF
  have H1 := Lib.hid hb1
  have H2 := Lib.hid hb2
  have H3 := Lib.hid hb3
  have HW0 := Lib.hid hw0
  clear hO hT hr hb1 hb2 hb3 hb4 hw0
  go_enter Tryz.func27, Tryz.ntmps27
  go_wp2_with fail
  have hw0 := HW0.out
  rw [hw0]
  clear hw0
  have HB1 := HB0
  obtain ⟨z0, z1, z2, z3, z4, zl⟩ := HK.out w0 (Below.refl _ _)
  refine (kwithin_any _ _ _ _).mono ?_
  rintro e _ ⟨rfl, rfl⟩
  rw [H1.out]
  cases b1
  case false =>
    have hrf := HN1.out (by trivial)
    subst hrf
    go_wp2
    go_ret
    exact ⟨rfl, HB1.out⟩
  case true =>
  have hn1 := of_decide_eq_true H1.out
  obtain ⟨hn1, hn6⟩ := hn1
  go_wp2_with fail
  refine (kwithin_any _ _ _ _).mono ?_
  rintro e _ ⟨rfl, rfl⟩
  rw [H2.out]
  cases b2
  case false =>
    have hrf := HN2.out (by trivial)
    subst hrf
    go_wp2
    go_ret
    exact ⟨rfl, HB1.out⟩
  case true =>
  have hi1 := of_decide_eq_true H2.out
  obtain ⟨hi0, hi1⟩ := hi1
  go_wp2_with fail
  refine (kwithin_any _ _ _ _).mono ?_
  rintro e _ ⟨rfl, rfl⟩
  rw [H3.out]
  cases b3
  case false =>
    have hrf := HN3.out (by trivial)
    subst hrf
    go_wp2
    go_ret
    exact ⟨rfl, HB1.out⟩
  case true =>
  have hv1 := of_decide_eq_true H3.out
  obtain ⟨hv0, hv1⟩ := hv1
  go_wp2_with fail
  refine (HIS.out w0).mono ?_
  rintro e w1 ⟨rfl, hb⟩
  have HX1 := Lib.hid hb
  clear HB1
  have HB1 := Lib.hid (below_trans HB0.out hb)
  clear hb
  cases b4
  case false =>
    have hrf := HN4.out (by trivial)
    subst hrf
    go_wp2
    go_ret
    exact ⟨rfl, HB1.out⟩
  case true =>
  have hre := HY.out (by trivial) (by trivial) (by trivial) (by trivial)
  clear z0 z1 z2 z3 z4 zl
  have HLC : Hid (∀ W, Below w1.heap.size w1 W → Calls Tryz.prog 66 #[.int .i64 o.ix, .int .i64 o.v, .string o.salt] W fun e w' => e = .returned (.string (ksLf o.ix.toNat o.v.toNat o.salt)) ∧ Below w1.heap.size w1 w') := Lib.hid (fun W hW => by
    have := HLF.out o.ix.toNat o.v.toNat W (by omega) (by omega) (by trivial) (below_trans HB1.out hW)
    rw [show ((o.ix.toNat : Nat) : Int) = o.ix by omega, show ((o.v.toNat : Nat) : Int) = o.v by omega] at this
    exact this.mono fun _ _ ⟨he, hb⟩ => ⟨he, below_trans hW hb⟩)
  have HCC : Hid (∀ W, Below w1.heap.size w1 W → Calls Tryz.prog 65 #[.string cm.1, .int .i64 n, .int .i64 o.ix, .string (ksLf o.ix.toNat o.v.toNat o.salt), .slice o.A o.p.length o.c] W fun e w' => e = .returned (.bool r) ∧ Below w1.heap.size w1 w') := Lib.hid (fun W hW => by
    have := HTC.out n o.ix (ksLf o.ix.toNat o.v.toNat o.salt) W (by show (dg _).size ≤ _; rw [dg_size]; omega) (below_trans HB1.out hW)
    rw [← hre] at this
    exact this.mono fun _ _ ⟨he, hb⟩ => ⟨he, below_trans hW hb⟩)
  generalize ksLf o.ix.toNat o.v.toNat o.salt = LFV at *
  clear hre
  go_wp2_with fail
  refine wp_region_belowC (by kernel_rfl) (by kernel_rfl) (fun WQ HQS HQN => ?_)
  refine HQS.go (fun K hK => ?_)
  go_simp
  apply Exists.intro
  refine ⟨fun W hW => ?_, hK _ ?_⟩
  · (try go_simp)
    exact rfl
  clear hK K
  refine HQS.go (fun K hK => ?_)
  go_simp
  apply Exists.intro
  refine ⟨fun W hW => ?_, hK _ ?_⟩
  · obtain ⟨z0, z1, z2, z3, z4, zl⟩ := HK.out W (below_trans HX1.out hW)
    go_simp
    exact rfl
  clear hK K
  refine HQS.go (fun K hK => ?_)
  go_simp
  apply Exists.intro
  refine ⟨fun W hW => ?_, hK _ ?_⟩
  · (try go_simp)
    exact rfl
  clear hK K
  refine HQS.go (fun K hK => ?_)
  go_simp
  apply Exists.intro
  refine ⟨fun W hW => ?_, hK _ ?_⟩
  · (try go_simp)
    exact rfl
  clear hK K
  refine HQS.go (fun K hK => ?_)
  go_simp
  apply Exists.intro
  refine ⟨fun W hW => ?_, hK _ ?_⟩
  · obtain ⟨z0, z1, z2, z3, z4, zl⟩ := HK.out W (below_trans HX1.out hW)
    go_simp
    exact rfl
  clear hK K
  refine HQS.go (fun K hK => ?_)
  go_simp
  apply Exists.intro
  refine ⟨fun W hW => ?_, hK _ ?_⟩
  · (try go_simp)
    exact rfl
  clear hK K
  refine HQS.go (fun K hK => ?_)
  go_simp
  apply Exists.intro
  refine ⟨fun W hW => ?_, hK _ ?_⟩
  · obtain ⟨z0, z1, z2, z3, z4, zl⟩ := HK.out W (below_trans HX1.out hW)
    go_simp
    exact rfl
  clear hK K
  refine HQS.go (fun K hK => ?_)
  go_simp
  apply Exists.intro
  refine ⟨fun W hW => ?_, hK _ ?_⟩
  · (try go_simp)
    exact rfl
  clear hK K
  refine HQS.go (fun K hK => ?_)
  go_simp
  apply Exists.intro
  refine ⟨fun W hW => ?_, hK _ ?_⟩
  · obtain ⟨z0, z1, z2, z3, z4, zl⟩ := HK.out W (below_trans HX1.out hW)
    go_simp
    exact rfl
  clear hK K
  refine HQS.go (fun K hK => ?_)
  go_simp
  apply Exists.intro
  refine ⟨fun W hW => ?_, hK _ ?_⟩
  · (try go_simp)
    exact rfl
  clear hK K
  refine HQS.go (fun K hK => ?_)
  go_simp
  apply Exists.intro
  refine ⟨fun W hW => ?_, hK _ ?_⟩
  · obtain ⟨z0, z1, z2, z3, z4, zl⟩ := HK.out W (below_trans HX1.out hW)
    go_simp
    exact rfl
  clear hK K
  refine HQS.go (fun K hK => ?_)
  go_simp
  apply Exists.intro
  refine ⟨fun W hW => ?_, hK _ ?_⟩
  · exact HLC.out W hW
  clear hK K
  refine HQS.go (fun K hK => ?_)
  go_simp
  apply Exists.intro
  refine ⟨fun W hW => ?_, hK _ ?_⟩
  · (try go_simp)
    exact rfl
  clear hK K
  refine HQS.go (fun K hK => ?_)
  go_simp
  apply Exists.intro
  refine ⟨fun W hW => ?_, hK _ ?_⟩
  · obtain ⟨z0, z1, z2, z3, z4, zl⟩ := HK.out W (below_trans HX1.out hW)
    go_simp
    exact rfl
  clear hK K
  refine HQS.go (fun K hK => ?_)
  go_simp
  apply Exists.intro
  refine ⟨fun W hW => ?_, hK _ ?_⟩
  · exact HCC.out W hW
  clear hK K
  refine HQS.go (fun K hK => ?_)
  go_simp
  apply Exists.intro
  refine ⟨fun W hW => ?_, hK _ ?_⟩
  · (try go_simp)
    exact rfl
  clear hK K
  refine HQN.go ?_
  intro W hW
  have H8 := Lib.hid (below_trans HB1.out hW)
  clear hW
  go_wp2
  go_ret
  exact ⟨rfl, H8.out⟩
end

section
open Go.RowKit Go.Maps

theorem Seen.below {w w' : World} {B n : Nat} {xs : List Int} (h : Seen w B n xs) (hb : Below w.heap.size w w') : Seen w' B n xs := by
  obtain ⟨D, h1, h3⟩ := h
  have hlt := h1.lt
  obtain ⟨es, clock, h1, h2⟩ := h1
  exact ⟨D, ⟨es, clock, (hb.block B hlt).trans h1, h2⟩, h3⟩
theorem jst_no {root : ByteArray} {n kp i : Int} {S : List (Int × Int)} {k : Kp} (h : kgood root n kp i k = false) : jst root n kp i S k = S := by unfold jst; rw [h]; rfl
theorem jst_dup {root : ByteArray} {n kp i : Int} {S : List (Int × Int)} {k : Kp} (h : decide (k.s.1 ∈ S.map (·.1)) = true) : jst root n kp i S k = S := by
  unfold jst
  have : (S.map (·.1)).contains k.s.1 = true := by simpa using h
  rw [this]; simp
theorem jst_new {root : ByteArray} {n kp i : Int} {S : List (Int × Int)} {k : Kp} (hg : kgood root n kp i k = true) (h : decide (k.s.1 ∈ S.map (·.1)) = false) : jst root n kp i S k = S ++ [k.s] := by
  unfold jst
  have : (S.map (·.1)).contains k.s.1 = false := by simpa using h
  rw [this, hg]; rfl
/-- What a row of kept shares asks of memory. -/
structure KwFit (w : World) (a : Kw) : Prop where
  row : RowOf kpC 4 w a.A a.l
  each : ∀ k, k ∈ a.l → KpFit w k
  len : a.l.length ≤ 1000
theorem KwFit.below {w w' : World} {a : Kw} (h : KwFit w a) (hb : Below w.heap.size w w') : KwFit w' a := ⟨h.row.below hb, fun k hk => (h.each k hk).below hb, h.len⟩
theorem kp_cells {w : World} {a : Kw} (h : RowOf kpC 4 w a.A a.l) {j : Nat} {k : Kp} (hj : a.l[j]? = some k) : ∃ b off, a.A = some ⟨b, off, none⟩ ∧ w.cell? ⟨b, off + j * 4, none⟩ = some (.int .i64 k.ix) ∧ w.cell? ⟨b, off + j * 4 + 1, none⟩ = some (.int .i64 k.s.1) ∧ w.cell? ⟨b, off + j * 4 + 2, none⟩ = some (.int .i64 k.s.2) ∧ w.cell? ⟨b, off + j * 4 + 3, none⟩ = some (.slice k.A k.p.length k.c) := by
  obtain ⟨b, off, he, hc⟩ := h.at_ kpC_len hj
  exact ⟨b, off, he, by have := hc 0 _ rfl; simpa using this, hc 1 _ rfl, hc 2 _ rfl, hc 3 _ rfl⟩

set_option maxRecDepth 100000 in
set_option maxHeartbeats 16000000 in
theorem kjoin_any (cm : ByteArray × ByteArray) (n kp i : Nat) (a : Kw) (need : Int) (w : World) (hw : KwFit w a) (hn : n ≤ 600) (hkp : kp ≤ 9) (hi : i < n) (hneed : i64ok need) (hT : Tabs w) :
    Calls Tryz.prog 62 #[.agg #[.string cm.1, .string cm.2], .int .i64 n, .int .i64 kp, .int .i64 i, .slice a.A a.l.length a.c, .int .i64 need] w fun e w' => e = .returned (.tuple #[.int .i64 (kjn cm.2 n kp i a.l need).1, .int .i64 (kjn cm.2 n kp i a.l need).2]) ∧ Below w.heap.size w w' := by
  obtain ⟨KJ, hKJ⟩ : ∃ KJ, kjn cm.2 n kp i a.l need = KJ := ⟨_, rfl⟩
  rw [hKJ]
  have HKJ := Lib.hid hKJ
  clear hKJ
  obtain ⟨w0, hw0⟩ : ∃ w0, (w.alloc (.cells #[.string cm.1, .string cm.2] 29)).alloc (.map #[] 0) = w0 := ⟨_, rfl⟩
  have hmm := @run_makeMap Tryz.prog
  have HB0 : Hid (Below w.heap.size w w0) := Lib.hid (by rw [← hw0]; exact below_alloc (below_alloc (Below.refl _ _) _) _)
  have hs0 : w0.heap.size = w.heap.size + 2 := by rw [← hw0]; simp
  have HS0 : Hid (Seen w0 (w.heap.size + 1) 0 []) := Lib.hid (by
    rw [← hw0]
    have := Seen.made (w.alloc (.cells #[.string cm.1, .string cm.2] 29))
    have e : (w.alloc (.cells #[.string cm.1, .string cm.2] 29)).heap.size = w.heap.size + 1 := by simp
    rw [e] at this
    exact this)
  have HCM : Hid (∀ W, Below (w.heap.size + 1) w0 W → W.cell? ⟨w.heap.size, 1, none⟩ = some (.string cm.2)) := Lib.hid (fun W hW => by
    have h1 : Blk w0 w.heap.size 29 #[.string cm.1, .string cm.2] := by rw [← hw0]; exact (Blk.new w _ _ _ rfl).alloc _
    exact below_cell hW (by omega) (h1.of_cell (i := 1) rfl))
  have HBW : Hid (∀ W, Below (w.heap.size + 1) w0 W → Below w.heap.size w W) := Lib.hid (fun W hW => HB0.out.trans (hW.mono (by omega)))
  have HT : Hid (∀ W, Below w.heap.size w W → Tabs W) := Lib.hid (fun W hW => hT.below hW)
  have HW : Hid (∀ W, Below w.heap.size w W → KwFit W a) := Lib.hid (fun W hW => hw.below hW)
  have hal := hw.len
  have HJ0 : Hid (jfd cm.2 n kp i (a.l.take 0) = []) := Lib.hid rfl
  have HJS : Hid (∀ (j : Nat) (k : Kp), a.l[j]? = some k → jfd cm.2 n kp i (a.l.take (j + 1)) = jst cm.2 n kp i (jfd cm.2 n kp i (a.l.take j)) k) := Lib.hid (fun j k h => jfd_snoc cm.2 n kp i h)
  have HJL : Hid (∀ (j : Nat) (k : Kp), (jst cm.2 n kp i (jfd cm.2 n kp i (a.l.take j)) k).length ≤ (jfd cm.2 n kp i (a.l.take j)).length + 1) := Lib.hid (fun j k => (jst_sub cm.2 n kp i _ k).1)
  obtain ⟨i0, hi0, hz0, hz1, hz2⟩ := info_parts info_share
  have HI := Lib.hid (And.intro hi0 (And.intro hz0 (And.intro hz1 hz2)))
  have HW0 := Lib.hid hw0
  clear hw0 hT hw hi0 hz0 hz1 hz2
  go_enter Tryz.func62, Tryz.ntmps62
  go_wp2_with fail
  have hw0 := HW0.out
  rw [hw0]
  clear hw0
  have HO0 : Hid (w0.ownsRow (w.heap.size + 2) 48 2 (.slice none 0 0) (jfd cm.2 n kp i (a.l.take 0)).length (flat2 (jfd cm.2 n kp i (a.l.take 0)))) := Lib.hid (by rw [HJ0.out]; exact World.ownsRow_nil _ _ _ _)
  have HSE0 : Hid (Seen w0 (w.heap.size + 1) (jfd cm.2 n kp i (a.l.take 0)).length ((jfd cm.2 n kp i (a.l.take 0)).map (·.1))) := Lib.hid (by rw [HJ0.out]; exact HS0.out)
  clear hmm
  go_loopw [15, 17, 18, 24] (fun u15 _ _ u24 wr => ∃ j : Nat, j ≤ a.l.length ∧ u24 = .int .i64 j ∧ w.heap.size + 2 ≤ wr.heap.size ∧ Below (w.heap.size + 1) w0 wr ∧ Seen wr (w.heap.size + 1) (jfd cm.2 n kp i (a.l.take j)).length ((jfd cm.2 n kp i (a.l.take j)).map (·.1)) ∧ wr.ownsRow (w.heap.size + 2) 48 2 u15 (jfd cm.2 n kp i (a.l.take j)).length (flat2 (jfd cm.2 n kp i (a.l.take j))) ∧ (jfd cm.2 n kp i (a.l.take j)).length ≤ j) (fun _ _ _ u24 _ => a.l.length - (intOf u24).toNat)
  case atStart => exact ⟨0, Nat.zero_le _, rfl, by omega, Below.refl _ _, HSE0.out, HO0.out, by rw [HJ0.out]; simp⟩
  case round =>
  obtain ⟨j, hj, rfl, hz2, hb, hse, ho, hjl⟩ := hrel
  have HBj := Lib.hid hb
  have HSj := Lib.hid hse
  have HOj := Lib.hid ho
  clear hb hse ho
  by_cases hlt : j < a.l.length
  case neg =>
    obtain rfl : j = a.l.length := by omega
    have HFE : Hid (jfd cm.2 n kp i (a.l.take a.l.length) = jfd cm.2 n kp i a.l) := Lib.hid (by rw [List.take_of_length_le (Nat.le_refl _)])
    have ho := HOj.out
    rw [HFE.out] at ho
    rw [HFE.out] at hjl
    have HKJ1 : Hid (((jfd cm.2 n kp i a.l).length : Int) < need → KJ = (0, 25)) := Lib.hid (fun h => by rw [← HKJ.out]; exact kjn_few h)
    have HKJ2 : Hid (¬ ((jfd cm.2 n kp i a.l).length : Int) < need → KJ = if (joinF (jfd cm.2 n kp i a.l) need).2 ≠ 0 ∨ 720 ≤ (joinF (jfd cm.2 n kp i a.l) need).1 then (0, 24) else ((joinF (jfd cm.2 n kp i a.l) need).1, 0)) := Lib.hid (fun h => by rw [← HKJ.out]; unfold kjn; rw [if_neg h])
    clear HKJ
    generalize jfd cm.2 n kp i a.l = FD at *
    obtain ⟨AF, cF, rfl, hcF, -, hrF⟩ := Rd.of_own ho
    have HPF : Hid (Prs wr AF FD) := Lib.hid hrF
    clear ho hrF HJS HJL HJ0 HO0 HSE0 HSj HOj
    by_cases hfew : (FD.length : Int) < need
    case pos =>
      have HE := Lib.hid (HKJ1.out hfew)
      go_wp2
      go_ret2
      rw [HE.out]
      exact ⟨rfl, HBW.out _ HBj.out⟩
    case neg =>
    have HE := Lib.hid (HKJ2.out hfew)
    have HJN := Lib.hid (join_full AF cF FD need wr HPF.out (by omega) hcF)
    obtain ⟨x, hx⟩ : ∃ x, (joinF FD need).1 = x := ⟨_, rfl⟩
    obtain ⟨er, her⟩ : ∃ x, (joinF FD need).2 = x := ⟨_, rfl⟩
    rw [hx, her] at HE HJN
    clear hx her
    go_wp2_with fail
    refine HJN.out.mono ?_
    rintro e w1 ⟨rfl, hb⟩
    have HB1 := Lib.hid (below_trans (HBW.out _ HBj.out) hb)
    clear hb
    by_cases he0 : er = 0
    case pos =>
      subst he0
      by_cases hx7 : 720 ≤ x
      case pos =>
        go_wp2
        go_ret2
        rw [HE.out, if_pos (.inr hx7)]
        exact ⟨rfl, HB1.out⟩
      case neg =>
        go_wp2
        go_ret2
        rw [HE.out, if_neg (by omega)]
        exact ⟨rfl, HB1.out⟩
    case neg =>
      have hb1 : (er == 0) = false := by simpa using he0
      have hb2 : (er != 0) = true := by simpa using he0
      go_wp2
      go_ret2
      rw [HE.out, if_pos (.inl he0)]
      exact ⟨rfl, HB1.out⟩
  case pos =>
  obtain ⟨k, hk⟩ := get_some a.l j hlt
  have hfit := HW.out wr (HBW.out _ HBj.out)
  have hkf := hfit.each k (List.mem_of_getElem? hk)
  obtain ⟨bA, oA, hAe, q0, q1, q2, q3⟩ := kp_cells hfit.row hk
  have ql := lt_of_cell q0
  have HAE := Lib.hid hAe
  have HKF := Lib.hid hkf
  have HJK := Lib.hid (HJS.out j k hk)
  have HJKL := Lib.hid (HJL.out j k)
  have hix := hkf.ix
  have hxr := hkf.x
  have hyr := hkf.y
  unfold i64ok at hix hxr hyr
  rw [hAe]
  clear hfit hkf hk hAe
  obtain ⟨S1, hS1D⟩ : ∃ S1, jfd cm.2 n kp i (a.l.take (j + 1)) = S1 := ⟨_, rfl⟩
  rw [hS1D] at HJK
  have HS1D := Lib.hid hS1D
  clear hS1D
  generalize jfd cm.2 n kp i (a.l.take j) = S0 at *
  have HNX : Hid (jst cm.2 n kp i S0 k = S0 → ∀ W, Below (w.heap.size + 1) w0 W → Seen W (w.heap.size + 1) S0.length (S0.map (·.1)) → ∀ v, W.ownsRow (w.heap.size + 2) 48 2 v S0.length (flat2 S0) → Below (w.heap.size + 1) w0 W ∧ Seen W (w.heap.size + 1) S1.length (S1.map (·.1)) ∧ W.ownsRow (w.heap.size + 2) 48 2 v S1.length (flat2 S1) ∧ S1.length ≤ j + 1) := Lib.hid (fun h W hW hs v ho => by
    rw [HJK.out, h]; exact ⟨hW, hs, ho, by omega⟩)
  have HSA := Lib.hid (HSj.out.grown (World.grownBy_alloc wr (.cells #[.int .i64 k.ix, .int .i64 k.s.1, .int .i64 k.s.2, .slice k.A k.p.length k.c] 50) none) (by simp))
  have HOA := Lib.hid (HOj.out.alloc (.cells #[.int .i64 k.ix, .int .i64 k.s.1, .int .i64 k.s.2, .slice k.A k.p.length k.c] 50))
  have HBA : Hid (Below (w.heap.size + 1) w0 (wr.alloc (.cells #[.int .i64 k.ix, .int .i64 k.s.1, .int .i64 k.s.2, .slice k.A k.p.length k.c] 50))) := Lib.hid (HBj.out.alloc (by have := HBj.out.size; omega) _)
  by_cases c1 : k.ix = (i : Int)
  case neg =>
    have hnx := HNX.out (jst_no (by unfold kgood; rw [decide_eq_false c1]; rfl)) _ HBA.out HSA.out _ HOA.out
    have HN := Lib.hid hnx
    have hb1 : (k.ix == (i : Int)) = false := by simpa using c1
    have hb2 : (k.ix != (i : Int)) = true := by simpa using c1
    clear hnx c1
    go_wp2
    go_roundw
    case rel =>
      refine ⟨j + 1, by omega, by go_num, by simp; omega, HN.out.1, ?_⟩
      rw [HS1D.out]
      exact HN.out.2
    case measure => simp [intOf]; omega
  case pos =>
  have hb1 : (k.ix == (i : Int)) = true := by simpa using c1
  have hb2 : (k.ix != (i : Int)) = false := by simpa using c1
  have HC1 := Lib.hid c1
  clear c1
  obtain ⟨b2, hb2'⟩ : ∃ b, wiB k.s.1 1 kp = b := ⟨_, rfl⟩
  obtain ⟨b3, hb3'⟩ : ∃ b, wiB k.s.2 0 2147483646 = b := ⟨_, rfl⟩
  have H2 := Lib.hid hb2'
  have H3 := Lib.hid hb3'
  clear hb2' hb3'
  go_wp2_with fail
  refine (kwithin_any _ _ _ _).mono ?_
  rintro e _ ⟨rfl, rfl⟩
  rw [H2.out]
  cases b2
  case false =>
    have h2 := of_decide_eq_false H2.out
    have hnx := HNX.out (jst_no (by unfold kgood; rw [decide_eq_false h2]; simp)) _ HBA.out HSA.out _ HOA.out
    have HN := Lib.hid hnx
    clear hnx h2
    go_wp2
    go_roundw
    case rel =>
      refine ⟨j + 1, by omega, by go_num, by simp; omega, HN.out.1, ?_⟩
      rw [HS1D.out]
      exact HN.out.2
    case measure => simp [intOf]; omega
  case true =>
  have h2 := of_decide_eq_true H2.out
  obtain ⟨hx1, hx2⟩ := h2
  go_wp2_with fail
  refine (kwithin_any _ _ _ _).mono ?_
  rintro e _ ⟨rfl, rfl⟩
  rw [H3.out]
  cases b3
  case false =>
    have h3 := of_decide_eq_false H3.out
    have hnx := HNX.out (jst_no (by unfold kgood; rw [show elemB k.s.2 = false by simp [elemB]; omega]; simp)) _ HBA.out HSA.out _ HOA.out
    have HN := Lib.hid hnx
    clear hnx h3
    go_wp2
    go_roundw
    case rel =>
      refine ⟨j + 1, by omega, by go_num, by simp; omega, HN.out.1, ?_⟩
      rw [HS1D.out]
      exact HN.out.2
    case measure => simp [intOf]; omega
  case true =>
  have h3 := of_decide_eq_true H3.out
  obtain ⟨hy1, hy2⟩ := h3
  have hex : elemB k.s.1 = true := by rw [elemB_iff]; omega
  have hey : elemB k.s.2 = true := by rw [elemB_iff]; omega
  have hlook := HSA.out.lookB k.s.1 hex
  obtain ⟨b4, hb4⟩ : ∃ b, decide (k.s.1 ∈ S0.map (·.1)) = b := ⟨_, rfl⟩
  rw [hb4] at hlook
  have H4 := Lib.hid hb4
  have HEX := Lib.hid hex
  have HEY := Lib.hid hey
  clear hb4 hex hey
  cases b4
  case true =>
    have hnx := HNX.out (jst_dup H4.out) _ HBA.out HSA.out _ HOA.out
    have HN := Lib.hid hnx
    clear hnx
    go_wp2
    go_roundw
    case rel =>
      refine ⟨j + 1, by omega, by go_num, by simp; omega, HN.out.1, ?_⟩
      rw [HS1D.out]
      exact HN.out.2
    case measure => simp [intOf]; omega
  case false =>
  obtain ⟨kv, hkv⟩ : ∃ b, kvB cm.2 n kp i k.s k.p = b := ⟨_, rfl⟩
  have hkg : kgood cm.2 n kp i k = kv := by
    unfold kgood; rw [hkv, decide_eq_true HC1.out, HEY.out, decide_eq_true ⟨hx1, hx2⟩]; rfl
  have HKG := Lib.hid hkg
  have HKVE := Lib.hid hkv
  clear hkg hkv
  obtain ⟨X, hX⟩ : ∃ X : Nat, k.s.1 = (X : Int) := ⟨k.s.1.toNat, by omega⟩
  obtain ⟨N1, hN1⟩ : ∃ N1, n * kp = N1 := ⟨_, rfl⟩
  obtain ⟨N2, hN2⟩ : ∃ N2, i * kp = N2 := ⟨_, rfl⟩
  have hN1l : N1 ≤ 5400 := by rw [← hN1]; exact Nat.mul_le_mul hn hkp
  have hN2l : N2 ≤ 5400 := by rw [← hN2]; exact Nat.le_trans (Nat.mul_le_mul (show i ≤ 600 by omega) hkp) (by omega)
  obtain ⟨N3, hN3⟩ : ∃ N3 : Nat, N2 + X - 1 = N3 := ⟨_, rfl⟩
  have e1 : IntKind.i64.wrap ((n : Int) * (kp : Int)) = (N1 : Int) := by rw [← Int.natCast_mul, hN1, IntWalk.i64_in _ (by omega)]
  have e2 : IntKind.i64.wrap ((i : Int) * (kp : Int)) = (N2 : Int) := by rw [← Int.natCast_mul, hN2, IntWalk.i64_in _ (by omega)]
  obtain ⟨N4, hN4⟩ : ∃ N4 : Nat, N2 + X = N4 := ⟨_, rfl⟩
  have e3 : IntKind.i64.wrap ((N2 : Int) + k.s.1) = (N4 : Int) := by rw [IntWalk.i64_in _ (by omega)]; omega
  have e4 : IntKind.i64.wrap ((N4 : Int) - 1) = (N3 : Int) := by rw [IntWalk.i64_in _ (by omega)]; omega
  obtain ⟨wa, hwa⟩ : ∃ wa, wr.alloc (.cells #[.int .i64 k.ix, .int .i64 k.s.1, .int .i64 k.s.2, .slice k.A k.p.length k.c] 50) = wa := ⟨_, rfl⟩
  have HKC : Hid (∀ W, Below wa.heap.size wa W → W.cell? ⟨wr.heap.size, 0, none⟩ = some (.int .i64 k.ix) ∧ W.cell? ⟨wr.heap.size, 1, none⟩ = some (.int .i64 k.s.1) ∧ W.cell? ⟨wr.heap.size, 2, none⟩ = some (.int .i64 k.s.2) ∧ W.cell? ⟨wr.heap.size, 3, none⟩ = some (.slice k.A k.p.length k.c) ∧ wr.heap.size < W.heap.size) := Lib.hid (fun W hW => by
    have h1 : Blk wa wr.heap.size 50 #[.int .i64 k.ix, .int .i64 k.s.1, .int .i64 k.s.2, .slice k.A k.p.length k.c] := by rw [← hwa]; exact Blk.new _ _ _ _ rfl
    have h0 := kept_cell hW (h1.of_cell (i := 0) rfl)
    exact ⟨h0, kept_cell hW (h1.of_cell (i := 1) rfl), kept_cell hW (h1.of_cell (i := 2) rfl), kept_cell hW (h1.of_cell (i := 3) rfl), lt_of_cell h0⟩)
  rw [hwa] at HSA HOA HBA
  have HWX : Hid (∀ W, Below wa.heap.size wa W → Below (w.heap.size + 1) w0 W) := Lib.hid (fun W hW => HBA.out.trans (hW.mono (by have := HBA.out.size; omega)))
  have HSL : Hid (∀ W, Below wa.heap.size wa W → Calls Tryz.prog 90 #[.int .i64 i, .agg #[.int .i64 k.s.1, .int .i64 k.s.2]] W fun e w' => e = .returned (.string (khLf i k.s)) ∧ Below wa.heap.size wa w') := Lib.hid (fun W hW => (kshl_any i k.s W (by omega) (by omega) (by omega) (HT.out W (HBW.out W (HWX.out W hW)))).mono fun _ _ ⟨he, hb⟩ => ⟨he, below_trans hW hb⟩)
  have HTC : Hid (∀ W, Below wa.heap.size wa W → Calls Tryz.prog 65 #[.string cm.2, .int .i64 N1, .int .i64 N3, .string (khLf i k.s), .slice k.A k.p.length k.c] W fun e w' => e = .returned (.bool kv) ∧ Below wa.heap.size wa w') := Lib.hid (fun W hW => by
    have hW2 := HBW.out W (HWX.out W hW)
    have hWr := hwa ▸ hW
    have := tcheck_any cm.2 N1 N3 (khLf i k.s) k.A k.c k.p W (HT.out W hW2) ((HKF.out.below (below_alloc (Below.refl _ _) _)).below hWr).p HKF.out.pl (by show (dg _).size ≤ _; rw [dg_size]; omega) HKF.out.ps
    have hk := HKVE.out
    unfold kvB at hk
    rw [← Int.natCast_mul, ← Int.natCast_mul, hN1, hN2, show (N2 : Int) + k.s.1 - 1 = (N3 : Int) by omega, Int.toNat_natCast] at hk
    rw [hk] at this
    exact this.mono fun _ _ ⟨he, hb⟩ => ⟨he, below_trans hW hb⟩)
  have HWA := Lib.hid hwa
  have HXE := Lib.hid hX
  have HE := Lib.hid (And.intro e1 (And.intro e2 (And.intro e3 e4)))
  clear hX hN3 hN4
  generalize khLf i k.s = LFV at *
  clear e1 e2 e3 e4 hN1 hN2 hwa
  go_wp2_with fail
  have hwa := HWA.out
  rw [hwa]
  clear hwa hlook q0 q1 q2 q3 ql
  obtain ⟨e1, e2, e3, e4⟩ := HE.out
  refine wp_region_belowC (by kernel_rfl) (by kernel_rfl) (fun WQ HQS HQN => ?_)
  refine HQS.go (fun K hK => ?_)
  go_simp
  apply Exists.intro
  refine ⟨fun W hW => ?_, hK _ ?_⟩
  · (try go_simp)
    exact rfl
  clear hK K
  refine HQS.go (fun K hK => ?_)
  go_simp
  apply Exists.intro
  refine ⟨fun W hW => ?_, hK _ ?_⟩
  · have z := HCM.out W (HWX.out W hW)
    have zl := lt_of_cell z
    go_simp
    exact rfl
  clear hK K
  refine HQS.go (fun K hK => ?_)
  go_simp
  apply Exists.intro
  refine ⟨fun W hW => ?_, hK _ ?_⟩
  · (try go_simp)
    exact rfl
  clear hK K
  refine HQS.go (fun K hK => ?_)
  go_simp
  apply Exists.intro
  refine ⟨fun W hW => ?_, hK _ ?_⟩
  · (try go_simp)
    exact rfl
  clear hK K
  refine HQS.go (fun K hK => ?_)
  go_simp
  apply Exists.intro
  refine ⟨fun W hW => ?_, hK _ ?_⟩
  · (try go_simp)
    exact rfl
  clear hK K
  refine HQS.go (fun K hK => ?_)
  go_simp
  apply Exists.intro
  refine ⟨fun W hW => ?_, hK _ ?_⟩
  · (try go_simp)
    exact rfl
  clear hK K
  refine HQS.go (fun K hK => ?_)
  go_simp
  apply Exists.intro
  refine ⟨fun W hW => ?_, hK _ ?_⟩
  · (try go_simp)
    exact rfl
  clear hK K
  refine HQS.go (fun K hK => ?_)
  go_simp
  apply Exists.intro
  refine ⟨fun W hW => ?_, hK _ ?_⟩
  · (try go_simp)
    exact rfl
  clear hK K
  refine HQS.go (fun K hK => ?_)
  go_simp
  apply Exists.intro
  refine ⟨fun W hW => ?_, hK _ ?_⟩
  · (try go_simp)
    exact rfl
  clear hK K
  refine HQS.go (fun K hK => ?_)
  go_simp
  apply Exists.intro
  refine ⟨fun W hW => ?_, hK _ ?_⟩
  · (try go_simp)
    exact rfl
  clear hK K
  refine HQS.go (fun K hK => ?_)
  go_simp
  apply Exists.intro
  refine ⟨fun W hW => ?_, hK _ ?_⟩
  · (try go_simp)
    exact rfl
  clear hK K
  refine HQS.go (fun K hK => ?_)
  go_simp
  apply Exists.intro
  refine ⟨fun W hW => ?_, hK _ ?_⟩
  · (try go_simp)
    exact rfl
  clear hK K
  refine HQS.go (fun K hK => ?_)
  go_simp
  apply Exists.intro
  refine ⟨fun W hW => ?_, hK _ ?_⟩
  · (try go_simp)
    exact rfl
  clear hK K
  refine HQS.go (fun K hK => ?_)
  go_simp
  apply Exists.intro
  refine ⟨fun W hW => ?_, hK _ ?_⟩
  · obtain ⟨z0, z1, z2, z3, zl⟩ := HKC.out W hW
    go_simp
    exact rfl
  clear hK K
  refine HQS.go (fun K hK => ?_)
  go_simp
  apply Exists.intro
  refine ⟨fun W hW => ?_, hK _ ?_⟩
  · exact HSL.out W hW
  clear hK K
  refine HQS.go (fun K hK => ?_)
  go_simp
  apply Exists.intro
  refine ⟨fun W hW => ?_, hK _ ?_⟩
  · (try go_simp)
    exact rfl
  clear hK K
  refine HQS.go (fun K hK => ?_)
  go_simp
  apply Exists.intro
  refine ⟨fun W hW => ?_, hK _ ?_⟩
  · obtain ⟨z0, z1, z2, z3, zl⟩ := HKC.out W hW
    go_simp
    exact rfl
  clear hK K
  refine HQS.go (fun K hK => ?_)
  go_simp
  apply Exists.intro
  refine ⟨fun W hW => ?_, hK _ ?_⟩
  · exact HTC.out W hW
  clear hK K
  refine HQN.go ?_
  intro wb hb
  clear e1 e2 e3 e4
  have HBb := Lib.hid (HWX.out _ hb)
  have HSb := Lib.hid (HSA.out.below hb)
  have HOb := Lib.hid (row_below HOA.out hb)
  have HKb := Lib.hid (HKC.out _ hb)
  clear hb
  cases kv
  case false =>
    have hnx := HNX.out (jst_no HKG.out) _ HBb.out HSb.out _ HOb.out
    have HN := Lib.hid hnx
    clear hnx
    go_wp2
    go_roundw
    case rel =>
      refine ⟨j + 1, by omega, by go_num, by have := HKb.out.2.2.2.2; omega, HN.out.1, ?_⟩
      rw [HS1D.out]
      exact HN.out.2
    case measure => simp [intOf]; omega
  case true =>
  have HNW := Lib.hid (jst_new HKG.out H4.out)
  have hjl2 : S0.length < 1000 := by omega
  obtain ⟨wc, hput, hSc, hgc⟩ := HSb.out.put k.s.1 HEX.out hjl2
  have HBc : Hid (Below (w.heap.size + 1) w0 wc) := Lib.hid (HBb.out.grown hgc (by have := HBb.out.size; omega) (by simp))
  have HOc := Lib.hid (HOb.out.kept hgc (.inr (by intro he; have := (HOb.out.lt _ he).1; omega)))
  have HSc := Lib.hid hSc
  obtain ⟨z0, z1, z2, z3, zl⟩ := HKb.out
  have z1c := (World.cell?_of_block (w := wb) (w' := wc) (a := ⟨wr.heap.size, 1, none⟩) (hgc.block wr.heap.size zl (by simp; omega))).trans z1
  have z2c := (World.cell?_of_block (w := wb) (w' := wc) (a := ⟨wr.heap.size, 2, none⟩) (hgc.block wr.heap.size zl (by simp; omega))).trans z2
  have zlc := lt_of_cell z1c
  clear hSc hgc z0 z1 z2 z3 zl
  go_wp2_with (at_builtin; refine wpList_app _ rfl (.tmp 73) (.tmp 76) 100 100 rfl (w.heap.size + 2) 48 48 i0 _ 2 16 Tryz.underlying100 Tryz.underlying100 HI.out.1 HI.out.2.1 HI.out.2.2.1 HI.out.2.2.2 rfl (by omega) _ S0.length _ rfl (HOc.out.alloc _) _ 1 1 [.int .i64 k.s.1, .int .i64 k.s.2] rfl (Rd_new wc #[.int .i64 k.s.1, .int .i64 k.s.2] _ 2 1 _ rfl rfl) (by simp [Value.oneCell']) (by simp only [maxLen]; omega) (by omega) (by have := HBc.out.size; simp; omega) ?_)
  intro v1 wd hownd hgd
  have hS1 : S1 = S0 ++ [k.s] := by rw [HJK.out, HNW.out]
  have e5 : flat2 S0 ++ [.int .i64 k.s.1, .int .i64 k.s.2] = flat2 S1 := by rw [hS1, flat2_append]; rfl
  have e6 : S0.length + 1 = S1.length := by rw [hS1]; simp
  have e7 : S0.map (·.1) ++ [k.s.1] = S1.map (·.1) := by rw [hS1]; simp
  have HSd := Lib.hid ((HSc.out.grown (World.grownBy_alloc wc (.cells #[.int .i64 k.s.1, .int .i64 k.s.2] 48) none) (by simp)).grown hgd (by intro he; have := (HOc.out.lt _ he.symm).1; omega))
  have HBd : Hid (Below (w.heap.size + 1) w0 wd) := Lib.hid ((HBc.out.alloc (by have := HBc.out.size; omega) _).grown hgd (by have := HBc.out.size; simp; omega) (fun j hj => by have := (HOc.out.lt j hj).1; omega))
  have HZd : Hid (wr.heap.size < wd.heap.size) := Lib.hid (by have h1 := hgd.size; have h2 := zlc; simp at h1; omega)
  rw [e5, e6] at hownd
  rw [e6, e7] at HSd
  have HOd := Lib.hid hownd
  have hS1l : S1.length ≤ j + 1 := by omega
  clear hownd hgd hS1 e5 e6 e7 z1c z2c zlc hput
  go_wp2
  go_roundw
  case rel =>
    refine ⟨j + 1, by omega, by go_num, by have := HZd.out; omega, HBd.out, ?_⟩
    rw [HS1D.out]
    exact ⟨HSd.out, HOd.out, hS1l⟩
  case measure => simp [intOf]; omega
end

end Go.Proofs.YtjfondfjdhjooaaGreatDoor
