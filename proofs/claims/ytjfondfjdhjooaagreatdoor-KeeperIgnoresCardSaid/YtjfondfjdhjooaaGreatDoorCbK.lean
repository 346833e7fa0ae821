/- Chapter 30, the reference: the shares of a seed, their leaves and strings. Chapter 30, the reference: a kept share: is it valid, its strings. Chapter 30, the reference: the strings of a kept share. -/
import Derived.Test.YtjfondfjdhjooaaGreatDoorCbJ
namespace Go.Proofs.YtjfondfjdhjooaaGreatDoor
set_option linter.unusedVariables false
set_option linter.unusedSimpArgs false

section
open Go.RowKit

set_option maxRecDepth 100000 in
set_option maxHeartbeats 16000000 in
theorem rshares_any (A : Option Addr) (c : Nat) (l : List Int) (n m : Nat) (B : Option Addr) (d : Nat) (random : List Int) (i : Nat) (w : World) (hA : Ints w A l) (hB : Ints w B random) (hok : DivOk l n m random) (hd : random.length ≤ d) (hd2 : d ≤ 9223372036854775807) (hi : i < l.length) :
    Calls Tryz.prog 60 #[.slice A l.length c, .int .i64 n, .int .i64 m, .slice B random.length d, .int .i64 i] w fun e w' => ∃ v, e = .returned v ∧ w'.ownsRow w.heap.size 48 2 v m (flat2 (kof l n m random i)) ∧ Below w.heap.size w w' := by
  obtain ⟨hf, h1, hnm, hm7, hlen, hel, hsd⟩ := hok
  obtain ⟨x, hx⟩ := get_some l i hi
  have hxr := sdV_at hsd hx
  obtain ⟨k, hk⟩ : ∃ k, n - 1 = k := ⟨_, rfl⟩
  obtain ⟨q1, hq1⟩ : ∃ q, i * k = q := ⟨_, rfl⟩
  obtain ⟨q2, hq2⟩ : ∃ q, (i + 1) * k = q := ⟨_, rfl⟩
  have hq12 : q2 = q1 + k := by rw [← hq2, ← hq1, Nat.add_mul, Nat.one_mul]
  have hq2l : q2 ≤ random.length := by rw [hlen, hk, ← hq2]; exact Nat.mul_le_mul_right k hi
  have hrl6 : random.length ≤ 3600 := by rw [hlen, hk]; exact Nat.le_trans (Nat.mul_le_mul hf (show k ≤ 6 by omega)) (by omega)
  have e1 : IntKind.i64.wrap ((n : Int) - 1) = (k : Int) := by rw [IntWalk.i64_in _ (by omega)]; omega
  have e2 : IntKind.i64.wrap ((i : Int) * (k : Int)) = (q1 : Int) := by rw [← Int.natCast_mul, hq1, IntWalk.i64_in _ (by omega)]
  have e3 : IntKind.i64.wrap ((i : Int) + 1) = (i : Int) + 1 := by rw [IntWalk.i64_in _ (by omega)]
  have e4 : IntKind.i64.wrap (((i : Int) + 1) * (k : Int)) = (q2 : Int) := by rw [show ((i : Int) + 1) = ((i + 1 : Nat) : Int) by omega, ← Int.natCast_mul, hq2, IntWalk.i64_in _ (by omega)]
  obtain ⟨rs, hrs⟩ : ∃ rs, (random.drop q1).take k = rs := ⟨_, rfl⟩
  have hrsl : rs.length = k := by rw [← hrs, List.length_take, List.length_drop]; omega
  have hpo : kpoly l n random i = x :: rs := by unfold kpoly; rw [hx, hk, hq1, hrs]; rfl
  have hall : rs.all elemB = true := by
    rw [← hrs]
    rw [List.all_eq_true] at hel ⊢; exact fun y hy => hel y (List.mem_of_mem_drop (List.mem_of_mem_take hy))
  have HSP : Hid (∀ (Z : Option Addr) (cz : Nat) W, Ints W Z rs → Calls Tryz.prog 102 #[.int .i64 x, .int .i64 n, .int .i64 m, .slice Z k cz] W fun e w' => ∃ v, e = .returned (.tuple #[v, .int .i64 0]) ∧ w'.ownsRow W.heap.size 48 2 v m (flat2 (kof l n m random i)) ∧ Below W.heap.size W w') := Lib.hid (fun Z cz W hZ => by
    have := rsplit_ok x n m Z cz rs W hZ h1 hnm (by omega) (by omega) (by omega) (by rw [elemB_iff]; omega) true hall
    unfold kof
    rw [hpo]
    rw [hrsl, if_pos rfl, if_pos rfl, shs_length] at this
    exact this)
  have HIR : Hid (∀ (b o : Nat) W, B = some ⟨b, o, none⟩ → Below w.heap.size w W → Ints W (some ⟨b, o + q1, none⟩) rs) := Lib.hid (fun b o W hbo hW => by
    have hI := hB.below hW
    refine ⟨by simp, fun h0 => ⟨b, o + q1, rfl, fun j u hu => ?_⟩⟩
    obtain ⟨b', o', e', hc'⟩ := hI.2 (by omega)
    rw [hbo] at e'
    injection e' with e'
    injection e' with e1 e2
    subst e1 e2
    rw [Nat.add_assoc]
    apply hc'
    rw [← hrs, List.map_take, List.getElem?_take] at hu
    split at hu
    · rw [List.map_drop, List.getElem?_drop] at hu; exact hu
    · cases hu)
  obtain ⟨Z, cz, hrun, hZI⟩ : ∃ (Z : Option Addr) (cz : Nat), (∀ W, (Instr.slice 23 (.slice B random.length d) (some (.int .i64 (q1 : Int))) (some (.int .i64 (q2 : Int))) none).run Tryz.prog W = .ok (.slice Z k cz) W) ∧ ∀ W, Below w.heap.size w W → Ints W Z rs := by
    have h1 : ∀ W, (Instr.slice 23 (.slice B random.length d) (some (.int .i64 (q1 : Int))) (some (.int .i64 (q2 : Int))) none).run Tryz.prog W = .ok (sliced B q1 q2 d 1) W := fun W => by
      have := run_slice_lh (P := Tryz.prog) W 23 B random.length d (by kernel_rfl) .i64 .i64 (q1 : Int) (q2 : Int) (by omega) (by omega) (by omega)
      rw [this, Int.toNat_natCast, Int.toNat_natCast]
      exact slice_size1 W _
    by_cases hk0 : k = 0
    · refine ⟨(if d = q1 then B else B.map (·.add (q1 * 1))), d - q1, fun W => ?_, fun W hW => ?_⟩
      · rw [h1 W, sliced, show q2 - q1 = k by omega]
      · have : rs = [] := List.eq_nil_of_length_eq_zero (by omega)
        subst this
        exact Rd.nil W 1 _
    · obtain ⟨b, o, hbo, _⟩ := hB.2 (by omega)
      refine ⟨some ⟨b, o + q1, none⟩, d - q1, fun W => ?_, fun W hW => HIR.out b o W hbo hW⟩
      rw [h1 W, sliced, if_neg (by omega), show q2 - q1 = k by omega, hbo, Nat.mul_one, Option.map_some, Addr.add_lit]
  obtain ⟨bA, oA, hAe, -⟩ := hA.at_ hx
  subst hAe
  have HC : Hid (∀ W, Below w.heap.size w W → W.cell? ⟨bA, oA + i, none⟩ = some (.int .i64 x)) := Lib.hid (fun W hW => by
    obtain ⟨b, off, he, hc⟩ := (hA.below hW).at_ hx
    cases he
    exact hc)
  have HRUN := Lib.hid hrun
  have HZI := Lib.hid hZI
  have hii : (i : Int) < (l.length : Int) := by omega
  generalize kof l n m random i = KO at *
  clear hrun hZI HIR hq12 hA hB hel hsd hx hpo hall hrs hlen hq1 hq2 hk
  go_enter Tryz.func60, Tryz.ntmps60
  go_wp2_with fail
  refine wp_region_held_drew (S := fun W => Below w.heap.size w W) (by kernel_rfl) ((Below.refl _ _).drew) (fun hS0 => ?_)
  refine wpAnyH_take (i := 0) (v := ?_) rfl (by kernel_rfl) (by kernel_rfl) (by kernel_rfl) (fun _ _ _ h => h) (Or.inl ⟨by kernel_rfl, ?hy⟩) hS0 ?rest
  case hy => (intro W hSw; clear hSw; go_simp; with_reducible rfl)
  case rest =>
  refine wpAnyH_take (i := 1) (v := ?_) rfl (by kernel_rfl) (by kernel_rfl) (by kernel_rfl) (fun _ _ _ h => h) (Or.inl ⟨by kernel_rfl, ?hy⟩) hS0 ?rest
  case hy => (intro W hSw; clear hSw; go_simp; with_reducible rfl)
  case rest =>
  refine wpAnyH_take (i := 2) (v := ?_) rfl (by kernel_rfl) (by kernel_rfl) (by kernel_rfl) (fun _ _ _ h => h) (Or.inl ⟨by kernel_rfl, ?hy⟩) hS0 ?rest
  case hy => (intro W hSw; clear hSw; go_simp; with_reducible rfl)
  case rest =>
  refine wpAnyH_take (i := 3) (v := ?_) rfl (by kernel_rfl) (by kernel_rfl) (by kernel_rfl) (fun _ _ _ h => h) (Or.inl ⟨by kernel_rfl, ?hy⟩) hS0 ?rest
  case hy => (intro W hSw; have c0 := HC.out W hSw; have cl := lt_of_cell c0; clear hSw; go_simp; with_reducible rfl)
  case rest =>
  refine wpAnyH_take (i := 4) (v := ?_) rfl (by kernel_rfl) (by kernel_rfl) (by kernel_rfl) (fun _ _ _ h => h) (Or.inl ⟨by kernel_rfl, ?hy⟩) hS0 ?rest
  case hy => (intro W hSw; clear hSw; go_simp; with_reducible rfl)
  case rest =>
  refine wpAnyH_take (i := 5) (v := ?_) rfl (by kernel_rfl) (by kernel_rfl) (by kernel_rfl) (fun _ _ _ h => h) (Or.inl ⟨by kernel_rfl, ?hy⟩) hS0 ?rest
  case hy => (intro W hSw; clear hSw; go_simp; with_reducible rfl)
  case rest =>
  try go_simp
  refine wpAnyH_take (i := 6) (v := ?_) rfl (by kernel_rfl) (by kernel_rfl) (by kernel_rfl) (fun _ _ _ h => h) (Or.inl ⟨by kernel_rfl, ?hy⟩) hS0 ?rest
  case hy => (intro W hSw; clear hSw; go_simp; with_reducible rfl)
  case rest =>
  refine wpAnyH_take (i := 7) (v := ?_) rfl (by kernel_rfl) (by kernel_rfl) (by kernel_rfl) (fun _ _ _ h => h) (Or.inl ⟨by kernel_rfl, ?hy⟩) hS0 ?rest
  case hy => (intro W hSw; clear hSw; go_simp; with_reducible rfl)
  case rest =>
  refine wpAnyH_take (i := 8) (v := ?_) rfl (by kernel_rfl) (by kernel_rfl) (by kernel_rfl) (fun _ _ _ h => h) (Or.inl ⟨by kernel_rfl, ?hy⟩) hS0 ?rest
  case hy => (intro W hSw; clear hSw; go_simp; with_reducible rfl)
  case rest =>
  refine wpAnyH_take (i := 9) (v := ?_) rfl (by kernel_rfl) (by kernel_rfl) (by kernel_rfl) (fun _ _ _ h => h) (Or.inl ⟨by kernel_rfl, ?hy⟩) hS0 ?rest
  case hy => (intro W hSw; clear hSw; go_simp; with_reducible rfl)
  case rest =>
  refine wpAnyH_take (i := 10) (v := ?_) rfl (by kernel_rfl) (by kernel_rfl) (by kernel_rfl) (fun _ _ _ h => h) (Or.inl ⟨by kernel_rfl, ?hy⟩) hS0 ?rest
  case hy => (intro W hSw; clear hSw; go_simp; with_reducible rfl)
  case rest =>
  refine wpAnyH_take (i := 11) (v := ?_) rfl (by kernel_rfl) (by kernel_rfl) (by kernel_rfl) (fun _ _ _ h => h) (Or.inl ⟨by kernel_rfl, ?hy⟩) hS0 ?rest
  case hy => (intro W hSw; clear hSw; go_simp; with_reducible rfl)
  case rest =>
  try go_simp
  refine wpAnyH_take (i := 12) (v := ?_) rfl (by kernel_rfl) (by kernel_rfl) (by kernel_rfl) (fun _ _ _ h => h) (Or.inl ⟨by kernel_rfl, ?hy⟩) hS0 ?rest
  case hy => (intro W hSw; clear hSw; go_simp; with_reducible rfl)
  case rest =>
  refine wpAnyH_take (i := 13) (v := ?_) rfl (by kernel_rfl) (by kernel_rfl) (by kernel_rfl) (fun _ _ _ h => h) (Or.inl ⟨by kernel_rfl, ?hy⟩) hS0 ?rest
  case hy => (intro W hSw; clear hSw; go_simp; with_reducible rfl)
  case rest =>
  refine wpAnyH_take (i := 14) (v := ?_) rfl (by kernel_rfl) (by kernel_rfl) (by kernel_rfl) (fun _ _ _ h => h) (Or.inl ⟨by kernel_rfl, ?hy⟩) hS0 ?rest
  case hy => (intro W hSw; clear hSw; go_simp; with_reducible rfl)
  case rest =>
  refine wpAnyH_take (i := 15) (v := ?_) rfl (by kernel_rfl) (by kernel_rfl) (by kernel_rfl) (fun _ _ _ h => h) (Or.inl ⟨by kernel_rfl, ?hy⟩) hS0 ?rest
  case hy => (intro W hSw; clear hSw; go_simp; with_reducible rfl)
  case rest =>
  refine wpAnyH_take (i := 16) (v := ?_) rfl (by kernel_rfl) (by kernel_rfl) (by kernel_rfl) (fun _ _ _ h => h) (Or.inl ⟨by kernel_rfl, ?hy⟩) hS0 ?rest
  case hy => (intro W hSw; have hr := HRUN.out W; clear hSw; go_simp; with_reducible rfl)
  case rest =>
  refine wpAnyH_ready (rs := [17]) (by kernel_rfl) (by simp) ?_
  refine AllReadyH.cons rfl (fun K hK => ?_) (AllReadyH.nil)
  go_simp
  refine (HSP.out Z cz _ (HZI.out _ hS0)).mono ?_
  rintro e w1 ⟨v1, rfl, ho, hb⟩
  have HB1 := Lib.hid (below_trans hS0 hb)
  have HO1 : Hid (w1.ownsRow w.heap.size 48 2 v1 m (flat2 KO)) := Lib.hid (row_mono ho hS0.size)
  clear ho hb
  go_simp
  refine hK.out _ _ HB1.out (fun hS1 => ?_)
  clear hK K
  refine wpAnyH_take (i := 18) (v := ?_) rfl (by kernel_rfl) (by kernel_rfl) (by kernel_rfl) (fun _ _ _ h => h) (Or.inl ⟨by kernel_rfl, ?hy⟩) hS1 ?rest
  case hy => (intro W hSw; clear hSw; go_simp; with_reducible rfl)
  case rest =>
  try go_simp
  refine wpAnyH_take (i := 19) (v := ?_) rfl (by kernel_rfl) (by kernel_rfl) (by kernel_rfl) (fun _ _ _ h => h) (Or.inl ⟨by kernel_rfl, ?hy⟩) hS1 ?rest
  case hy => (intro W hSw; clear hSw; go_simp; with_reducible rfl)
  case rest =>
  refine wpAnyH_take (i := 20) (v := ?_) rfl (by kernel_rfl) (by kernel_rfl) (by kernel_rfl) (fun _ _ _ h => h) (Or.inl ⟨by kernel_rfl, ?hy⟩) hS1 ?rest
  case hy => (intro W hSw; clear hSw; go_simp; with_reducible rfl)
  case rest =>
  refine wpAnyH_take (i := 21) (v := ?_) rfl (by kernel_rfl) (by kernel_rfl) (by kernel_rfl) (fun _ _ _ h => h) (Or.inl ⟨by kernel_rfl, ?hy⟩) hS1 ?rest
  case hy => (intro W hSw; clear hSw; go_simp; with_reducible rfl)
  case rest =>
  refine wpAnyH_take (i := 22) (v := ?_) rfl (by kernel_rfl) (by kernel_rfl) (by kernel_rfl) (fun _ _ _ h => h) (Or.inl ⟨by kernel_rfl, ?hy⟩) hS1 ?rest
  case hy => (intro W hSw; clear hSw; go_simp; with_reducible rfl)
  case rest =>
  refine wpAnyH_done (by kernel_rfl) ?_ _
  go_wp2
  go_ret
  exact ⟨_, rfl, HO1.out, HB1.out⟩
set_option maxRecDepth 100000 in
set_option maxHeartbeats 16000000 in
theorem rshleaves_any (A : Option Addr) (c : Nat) (l : List Int) (n m : Nat) (B : Option Addr) (d : Nat) (random : List Int) (w : World) (hA : Ints w A l) (hB : Ints w B random) (hok : DivOk l n m random) (hd : random.length ≤ d) (hd2 : d ≤ 9223372036854775807) :
    Calls Tryz.prog 50 #[.slice A l.length c, .int .i64 n, .int .i64 m, .slice B random.length d] w fun e w' => ∃ v, e = .returned v ∧ w'.ownsRow w.heap.size 9 1 v (l.length * m) ((khP l n m random l.length).map Value.string) ∧ Below w.heap.size w w' := by
  have HOF : Hid (∀ (i : Nat) W, i < l.length → Below w.heap.size w W → _) := Lib.hid (fun i W hi hW => rshares_any A c l n m B d random i W (hA.below hW) (hB.below hW) hok hd hd2 hi)
  have HOL : Hid (∀ i, (kof l n m random i).length = m) := Lib.hid (fun i => kof_length l n m random i)
  have HOR : Hid (∀ (i j : Nat) (s : Int × Int), (kof l n m random i)[j]? = some s → (1 ≤ s.1 ∧ s.1 ≤ m) ∧ 0 ≤ s.2 ∧ s.2 < 2147483647) := Lib.hid (fun i j s h => kof_lst l n m random i j s h)
  have hl6 := hok.few
  have hm7 := hok.m7
  have HML : Hid (∀ k j, k < l.length → j ≤ m → k * m + j ≤ 4200) := Lib.hid (fun k j hk hj => by
    have h1 : (k + 1) * m ≤ 600 * 7 := Nat.mul_le_mul (by omega) hm7
    rw [Nat.add_mul] at h1; omega)
  have HLM : Hid (l.length * m ≤ 4200) := Lib.hid (Nat.mul_le_mul hl6 hm7)
  have HMS : Hid (∀ k, (k + 1) * m = k * m + m) := Lib.hid (fun k => by rw [Nat.add_mul, Nat.one_mul])
  obtain ⟨i0, hi0, hz0, hz1, hz2⟩ := info_parts info_strg
  have HI := Lib.hid (And.intro hi0 (And.intro hz0 (And.intro hz1 hz2)))
  obtain ⟨KP, hKP⟩ : ∃ f : Nat → List ByteArray, f = khP l n m random := ⟨_, rfl⟩
  have HP0 : Hid (KP 0 = []) := Lib.hid (by rw [hKP]; rfl)
  have HPS : Hid (∀ i, KP (i + 1) = KP i ++ (kof l n m random i).map (khLf i)) := Lib.hid (fun i => by rw [hKP]; exact khP_succ l n m random i)
  have HO0 : Hid (w.ownsRow w.heap.size 9 1 (.slice none 0 0) (0 * m) ((KP 0).map Value.string)) := Lib.hid (by rw [Nat.zero_mul, HP0.out]; exact World.ownsRow_nil _ _ _ _)
  have HKP := Lib.hid hKP
  generalize kof l n m random = KO at *
  clear hA hB hok hi0 hz0 hz1 hz2 hKP
  go_enter Tryz.func50, Tryz.ntmps50
  go_wp2_with fail
  go_loopw [9, 10, 11, 12] (fun u9 u10 _ _ wr => ∃ k : Nat, k ≤ l.length ∧ u10 = .int .i64 k ∧ Below w.heap.size w wr ∧ wr.ownsRow w.heap.size 9 1 u9 (k * m) ((KP k).map Value.string)) (fun _ u10 _ _ _ => l.length - (intOf u10).toNat)
  case atStart => exact ⟨0, Nat.zero_le _, rfl, Below.refl _ _, HO0.out⟩
  case round =>
  obtain ⟨k, hk, rfl, hb, ho⟩ := hrel
  have HBk := Lib.hid hb
  have HOk := Lib.hid ho
  clear hb ho
  by_cases hlt : k < l.length
  case neg =>
    obtain rfl : k = l.length := by omega
    have HO : Hid (wr.ownsRow w.heap.size 9 1 u9 (l.length * m) ((khP l n m random l.length).map Value.string)) := Lib.hid (by have := HOk.out; rw [HKP.out] at this; exact this)
    go_wp2
    go_ret
    exact ⟨_, rfl, HO.out, HBk.out⟩
  case pos =>
  go_wp2_with fail
  refine (HOF.out k wr hlt HBk.out).mono ?_
  rintro e w1 ⟨vS, rfl, hoS, hb1⟩
  obtain ⟨AS, cS, rfl, -, -, -⟩ := Rd.of_own hoS
  have HOS := Lib.hid hoS
  have HB1 := Lib.hid (below_trans HBk.out hb1)
  obtain ⟨DL, hDL⟩ : ∃ f : Int × Int → ByteArray, f = (khLf k) := ⟨_, rfl⟩
  have HO1 : Hid (w1.ownsRow w.heap.size 9 1 u9 (k * m + 0) ((KP k ++ ((KO k).take 0).map DL).map Value.string)) := Lib.hid (by
    rw [List.take_zero, List.map_nil, List.append_nil]; exact row_below HOk.out hb1)
  have hor := HOR.out k
  have hol := HOL.out k
  have hpk := HPS.out k
  rw [← hDL] at hpk
  have HPK := Lib.hid hpk
  have HML1 : Hid (∀ j, j ≤ m → k * m + j ≤ 4200) := Lib.hid (fun j hj => HML.out k j hlt hj)
  have HMS1 := Lib.hid (HMS.out k)
  have HDL := Lib.hid hDL
  clear hoS hb1 hpk hDL
  generalize KO k = S at *
  have HSR := Lib.hid hor
  have HSL := Lib.hid hol
  obtain ⟨wo, hwo⟩ : ∃ wo : World, wo = wr := ⟨_, rfl⟩
  clear hor hol
  subst hwo
  go_wp2_with fail
  go_loopw [9, 12] (fun u9 u12 wr => ∃ j : Nat, j ≤ m ∧ u12 = .int .i64 j ∧ Below w.heap.size w wr ∧ wr.ownsRow wo.heap.size 48 2 (.slice AS m cS) m (flat2 S) ∧ wr.ownsRow w.heap.size 9 1 u9 (k * m + j) ((KP k ++ (S.take j).map DL).map Value.string)) (fun _ u12 _ => m - (intOf u12).toNat)
  case atStart => exact ⟨0, Nat.zero_le _, rfl, HB1.out, HOS.out, HO1.out⟩
  case round =>
  obtain ⟨j, hj, rfl, hb, hoS, ho⟩ := hrel
  have HBj := Lib.hid hb
  have HSj := Lib.hid hoS
  have HOj := Lib.hid ho
  clear hb hoS ho
  by_cases hjm : j < m
  case neg =>
    obtain rfl : j = m := by omega
    have ho := HOj.out
    rw [List.take_of_length_le (by rw [HSL.out]; exact Nat.le_refl _), ← HPK.out, ← HMS1.out] at ho
    have HO := Lib.hid ho
    clear ho
    go_wp2
    go_roundw
    case rel => exact ⟨k + 1, by omega, by go_num, HBj.out, HO.out⟩
    case measure => simp [intOf]; omega
  case pos =>
  obtain ⟨s, hs⟩ := get_some S j (by rw [HSL.out]; exact hjm)
  obtain ⟨⟨s1, s2⟩, s3, s4⟩ := HSR.out j s hs
  obtain ⟨A', c', hv, _, _, hrd⟩ := Rd.of_own HSj.out
  obtain ⟨e1, e2, e3⟩ : AS = A' ∧ True ∧ cS = c' := by simpa using hv
  subst e1 e3
  have hpr : Prs wr AS S := by unfold Prs; rw [HSL.out]; exact hrd
  obtain ⟨bS, oS, rfl, q1, q2⟩ := hpr.at_ hs
  have ql := lt_of_cell q1
  have HTK := Lib.hid (take_snoc S j s hs)
  have hml := HML1.out (j + 1) (by omega)
  have HSH : Hid (∀ W, Calls Tryz.prog 75 #[.int .i64 k, .agg #[.int .i64 s.1, .int .i64 s.2]] W fun e w' => e = .returned (.string (khT k s)) ∧ Below W.heap.size W w') := Lib.hid (fun W => rshtext_any k s W (by omega) (by omega) (by omega))
  have HTZ : Hid ((khT k s).size ≤ 60) := Lib.hid (khT_size k s (by omega) (by omega) (by omega))
  have HLF : Hid (∀ W, Calls Tryz.prog 77 #[.string (khT k s)] W fun e w' => e = .returned (.string (khLf k s)) ∧ Below W.heap.size W w') := Lib.hid (fun W => rleaf_any (khT k s) (by have := HTZ.out; omega) W)
  have hdl : DL s = khLf k s := by rw [HDL.out]
  clear hs hv hrd hpr e2
  go_wp2_with fail
  refine (HSH.out _).mono ?_
  rintro e w2 ⟨rfl, hb2⟩
  have HB2 := Lib.hid (below_trans HBj.out hb2)
  have HS2 := Lib.hid (row_below HSj.out hb2)
  have HO2 := Lib.hid (row_below HOj.out hb2)
  clear hb2 q1 q2 ql
  go_wp2_with fail
  refine (HLF.out _).mono ?_
  rintro e w3 ⟨rfl, hb3⟩
  have HB3 := Lib.hid (below_trans HB2.out hb3)
  have HS3 := Lib.hid (row_below HS2.out hb3)
  have HO3 := Lib.hid (row_below HO2.out hb3)
  clear hb3
  obtain ⟨dl, hds⟩ : ∃ d, DL s = d := ⟨_, rfl⟩
  rw [← hdl, hds]
  have HDE := Lib.hid hds
  clear hdl hds
  have hsz : w.heap.size ≤ w3.heap.size := HB3.out.size
  go_wp2_with (at_builtin; refine wpList_app _ rfl (.tmp 31) (.tmp 39) 30 30 rfl w.heap.size 9 9 i0 _ 1 16 Tryz.underlying30 Tryz.underlying30 HI.out.1 HI.out.2.1 HI.out.2.2.1 HI.out.2.2.2 rfl (by omega) _ (k * m + j) _ rfl (HO3.out.alloc _) _ 1 1 [.string dl] rfl (Rd_new w3 #[.string dl] _ 1 1 _ rfl rfl) (by simp [Value.oneCell']) (by simp only [maxLen]; omega) (by omega) (by simp; omega) ?_)
  intro v1 w4 hown3 hg3
  have HS4 := Lib.hid ((HS3.out.alloc (.cells #[.string dl] 9)).kept hg3 (own_ne HS3.out HO3.out (by decide)))
  have HB4 : Hid (Below w.heap.size w w4) := Lib.hid ((below_alloc HB3.out _).grown hg3 (by simp; omega) (fun j hj => (HO3.out.lt j hj).1))
  have hO4 : w4.ownsRow w.heap.size 9 1 v1 (k * m + (j + 1)) ((KP k ++ (S.take (j + 1)).map DL).map Value.string) := by
    have e3 : (KP k ++ (S.take (j + 1)).map DL).map Value.string = (KP k ++ (S.take j).map DL).map Value.string ++ [.string dl] := by
      rw [HTK.out]; simp [HDE.out]
    rw [e3, show k * m + (j + 1) = k * m + j + 1 from rfl]
    first | exact hown3 | (simp only [List.map_append] at hown3 ⊢; exact hown3) | simpa using hown3
  have HO4 := Lib.hid hO4
  clear hown3 hg3 hO4
  go_wp2
  go_roundw
  case rel => exact ⟨j + 1, by omega, by go_num, HB4.out, HS4.out, HO4.out⟩
  case measure => simp [intOf]; omega
set_option maxRecDepth 100000 in
set_option maxHeartbeats 16000000 in
theorem rshtexts_any (A : Option Addr) (c : Nat) (l : List Int) (n m : Nat) (B : Option Addr) (d : Nat) (random : List Int) (w : World) (hA : Ints w A l) (hB : Ints w B random) (hok : DivOk l n m random) (hd : random.length ≤ d) (hd2 : d ≤ 9223372036854775807) :
    Calls Tryz.prog 35 #[.slice A l.length c, .int .i64 n, .int .i64 m, .slice B random.length d] w fun e w' => ∃ v, e = .returned v ∧ w'.ownsRow w.heap.size 9 1 v (khTx l n m random).length ((khTx l n m random).map Value.string) ∧ Below w.heap.size w w' := by
  have HOF : Hid (∀ (i : Nat) W, i < l.length → Below w.heap.size w W → _) := Lib.hid (fun i W hi hW => rshares_any A c l n m B d random i W (hA.below hW) (hB.below hW) hok hd hd2 hi)
  have HOL : Hid (∀ i, (kof l n m random i).length = m) := Lib.hid (fun i => kof_length l n m random i)
  have HOR : Hid (∀ (i j : Nat) (s : Int × Int), (kof l n m random i)[j]? = some s → (1 ≤ s.1 ∧ s.1 ≤ m) ∧ 0 ≤ s.2 ∧ s.2 < 2147483647) := Lib.hid (fun i j s h => kof_lst l n m random i j s h)
  have HLV : Hid (∀ W, Below w.heap.size w W → Calls Tryz.prog 50 #[.slice A l.length c, .int .i64 n, .int .i64 m, .slice B random.length d] W fun e w' => ∃ v, e = .returned v ∧ w'.ownsRow W.heap.size 9 1 v (l.length * m) ((khP l n m random l.length).map Value.string) ∧ Below W.heap.size W w') := Lib.hid (fun W hW => rshleaves_any A c l n m B d random W (hA.below hW) (hB.below hW) hok hd hd2)
  have HTX : Hid (∀ (W : World) (BB : Option Addr) (dd : Nat), l.length * m ≤ dd → Strs W BB (khP l n m random l.length) → Calls Tryz.prog 73 #[.slice BB (l.length * m) dd] W fun e w' => ∃ v, e = .returned v ∧ w'.ownsRow W.heap.size 9 1 v (txt (khP l n m random l.length)).length ((txt (khP l n m random l.length)).map Value.string) ∧ Below W.heap.size W w') := Lib.hid (fun W BB dd hd' hB' => by
    have hle : l.length * m ≤ 4200 := Nat.mul_le_mul hok.few hok.m7
    have := rtxt_any (l.length * m) BB dd (khP l n m random l.length) W (by rw [khP_length]; exact Nat.le_refl _) (by rw [khP_length]; omega) (by rw [khP_length]; exact hd') hB' (khP_sm l n m random l.length)
    rw [khP_length] at this
    exact this)
  have HXL : Hid ((txt (khP l n m random l.length)).length ≤ 4201) := Lib.hid (by have hle : l.length * m ≤ 4200 := Nat.mul_le_mul hok.few hok.m7; have := (txt_len (khP l n m random l.length)).1; rw [khP_length] at this; omega)
  have HRL := Lib.hid (khP_length l n m random l.length)
  have HEQ : Hid (khTx l n m random = ((List.range l.length).flatMap fun i => (kof l n m random i).map fun s => jb [bLeaf, khT i s]) ++ txt (khP l n m random l.length)) := Lib.hid rfl
  generalize khTx l n m random = TT at *
  generalize txt (khP l n m random l.length) = X at *
  generalize khP l n m random l.length = R at *
  have hl6 := hok.few
  have hm7 := hok.m7
  have HML : Hid (∀ k j, k < l.length → j ≤ m → k * m + j ≤ 4200) := Lib.hid (fun k j hk hj => by
    have h1 : (k + 1) * m ≤ 600 * 7 := Nat.mul_le_mul (by omega) hm7
    rw [Nat.add_mul] at h1; omega)
  have HLM : Hid (l.length * m ≤ 4200) := Lib.hid (Nat.mul_le_mul hl6 hm7)
  have HMS : Hid (∀ k, (k + 1) * m = k * m + m) := Lib.hid (fun k => by rw [Nat.add_mul, Nat.one_mul])
  obtain ⟨i0, hi0, hz0, hz1, hz2⟩ := info_parts info_strg
  have HI := Lib.hid (And.intro hi0 (And.intro hz0 (And.intro hz1 hz2)))
  obtain ⟨KP, hKP⟩ : ∃ f : Nat → List ByteArray, f = fun k => (List.range k).flatMap fun i => (kof l n m random i).map fun s => jb [bLeaf, khT i s] := ⟨_, rfl⟩
  have HP0 : Hid (KP 0 = []) := Lib.hid (by rw [hKP]; rfl)
  have HPS : Hid (∀ i, KP (i + 1) = KP i ++ (kof l n m random i).map (fun s => jb [bLeaf, khT i s])) := Lib.hid (fun i => by rw [hKP]; simp [List.range_succ])
  have HO0 : Hid (w.ownsRow w.heap.size 9 1 (.slice none 0 0) (0 * m) ((KP 0).map Value.string)) := Lib.hid (by rw [Nat.zero_mul, HP0.out]; exact World.ownsRow_nil _ _ _ _)
  have HKP := Lib.hid hKP
  generalize kof l n m random = KO at *
  clear hA hB hok hi0 hz0 hz1 hz2 hKP
  go_enter Tryz.func35, Tryz.ntmps35
  go_wp2_with fail
  go_loopw [9, 10, 11, 12] (fun u9 u10 _ _ wr => ∃ k : Nat, k ≤ l.length ∧ u10 = .int .i64 k ∧ Below w.heap.size w wr ∧ wr.ownsRow w.heap.size 9 1 u9 (k * m) ((KP k).map Value.string)) (fun _ u10 _ _ _ => l.length - (intOf u10).toNat)
  case atStart => exact ⟨0, Nat.zero_le _, rfl, Below.refl _ _, HO0.out⟩
  case round =>
  obtain ⟨k, hk, rfl, hb, ho⟩ := hrel
  have HBk := Lib.hid hb
  have HOk := Lib.hid ho
  clear hb ho
  by_cases hlt : k < l.length
  case neg =>
    obtain rfl : k = l.length := by omega
    obtain ⟨A5, c5, rfl, -, -, -⟩ := Rd.of_own HOk.out
    go_wp2_with fail
    refine (HLV.out wr HBk.out).mono ?_
    rintro e w1 ⟨v1, rfl, ho1, hb1⟩
    obtain ⟨A1, c1, rfl, hc1, -, hr1⟩ := Rd.of_own ho1
    have HB1 := Lib.hid (below_trans HBk.out hb1)
    have HO1 := Lib.hid (row_below HOk.out hb1)
    have HR1 : Hid (Strs w1 A1 R) := Lib.hid (by unfold Strs; rw [HRL.out]; exact hr1)
    clear ho1 hb1 hr1
    go_wp2_with fail
    refine (HTX.out w1 A1 c1 hc1 HR1.out).mono ?_
    rintro e w2 ⟨v2, rfl, ho2, hb2⟩
    obtain ⟨A2, c2, rfl, -, -, hr2⟩ := Rd.of_own ho2
    have HB2 := Lib.hid (below_trans HB1.out hb2)
    have HO2 := Lib.hid (row_below HO1.out hb2)
    have HR2 := Lib.hid hr2
    clear ho2 hb2 hr2
    go_wp2_with (at_builtin; refine wpList_app _ rfl (.tmp 42) (.tmp 48) 30 30 rfl w.heap.size 9 9 i0 _ 1 16 Tryz.underlying30 Tryz.underlying30 HI.out.1 HI.out.2.1 HI.out.2.2.1 HI.out.2.2.2 rfl (by omega) _ (l.length * m) _ rfl HO2.out A2 X.length c2 (X.map Value.string) rfl HR2.out (by intro u hu; obtain ⟨t, _, rfl⟩ := List.mem_map.1 hu; rfl) (by have := HXL.out; have := HLM.out; simp only [maxLen]; omega) (by have := HXL.out; have := HLM.out; omega) HB2.out.size ?_)
    intro v3 w3 hown hg
    have HB3 : Hid (Below w.heap.size w w3) := Lib.hid (HB2.out.grown hg HB2.out.size (fun j hj => (HO2.out.lt j hj).1))
    have heq := HEQ.out
    rw [show ((List.range l.length).flatMap fun i => (KO i).map fun s => jb [bLeaf, khT i s]) = KP l.length by rw [HKP.out]] at heq
    rw [← List.map_append, ← heq] at hown
    have hlen : l.length * m + X.length = TT.length := by have := hown.1; rw [List.length_map] at this; omega
    rw [hlen] at hown
    have HO3 := Lib.hid hown
    clear hown hg hlen heq
    go_wp2
    go_ret
    exact ⟨_, rfl, HO3.out, HB3.out⟩
  case pos =>
  go_wp2_with fail
  refine (HOF.out k wr hlt HBk.out).mono ?_
  rintro e w1 ⟨vS, rfl, hoS, hb1⟩
  obtain ⟨AS, cS, rfl, -, -, -⟩ := Rd.of_own hoS
  have HOS := Lib.hid hoS
  have HB1 := Lib.hid (below_trans HBk.out hb1)
  obtain ⟨DL, hDL⟩ : ∃ f : Int × Int → ByteArray, f = (fun s => jb [bLeaf, khT k s]) := ⟨_, rfl⟩
  have HO1 : Hid (w1.ownsRow w.heap.size 9 1 u9 (k * m + 0) ((KP k ++ ((KO k).take 0).map DL).map Value.string)) := Lib.hid (by
    rw [List.take_zero, List.map_nil, List.append_nil]; exact row_below HOk.out hb1)
  have hor := HOR.out k
  have hol := HOL.out k
  have hpk := HPS.out k
  rw [← hDL] at hpk
  have HPK := Lib.hid hpk
  have HML1 : Hid (∀ j, j ≤ m → k * m + j ≤ 4200) := Lib.hid (fun j hj => HML.out k j hlt hj)
  have HMS1 := Lib.hid (HMS.out k)
  have HDL := Lib.hid hDL
  clear hoS hb1 hpk hDL
  generalize KO k = S at *
  have HSR := Lib.hid hor
  have HSL := Lib.hid hol
  obtain ⟨wo, hwo⟩ : ∃ wo : World, wo = wr := ⟨_, rfl⟩
  clear hor hol
  subst hwo
  go_wp2_with fail
  go_loopw [9, 12] (fun u9 u12 wr => ∃ j : Nat, j ≤ m ∧ u12 = .int .i64 j ∧ Below w.heap.size w wr ∧ wr.ownsRow wo.heap.size 48 2 (.slice AS m cS) m (flat2 S) ∧ wr.ownsRow w.heap.size 9 1 u9 (k * m + j) ((KP k ++ (S.take j).map DL).map Value.string)) (fun _ u12 _ => m - (intOf u12).toNat)
  case atStart => exact ⟨0, Nat.zero_le _, rfl, HB1.out, HOS.out, HO1.out⟩
  case round =>
  obtain ⟨j, hj, rfl, hb, hoS, ho⟩ := hrel
  have HBj := Lib.hid hb
  have HSj := Lib.hid hoS
  have HOj := Lib.hid ho
  clear hb hoS ho
  by_cases hjm : j < m
  case neg =>
    obtain rfl : j = m := by omega
    have ho := HOj.out
    rw [List.take_of_length_le (by rw [HSL.out]; exact Nat.le_refl _), ← HPK.out, ← HMS1.out] at ho
    have HO := Lib.hid ho
    clear ho
    go_wp2
    go_roundw
    case rel => exact ⟨k + 1, by omega, by go_num, HBj.out, HO.out⟩
    case measure => simp [intOf]; omega
  case pos =>
  obtain ⟨s, hs⟩ := get_some S j (by rw [HSL.out]; exact hjm)
  obtain ⟨⟨s1, s2⟩, s3, s4⟩ := HSR.out j s hs
  obtain ⟨A', c', hv, _, _, hrd⟩ := Rd.of_own HSj.out
  obtain ⟨e1, e2, e3⟩ : AS = A' ∧ True ∧ cS = c' := by simpa using hv
  subst e1 e3
  have hpr : Prs wr AS S := by unfold Prs; rw [HSL.out]; exact hrd
  obtain ⟨bS, oS, rfl, q1, q2⟩ := hpr.at_ hs
  have ql := lt_of_cell q1
  have HTK := Lib.hid (take_snoc S j s hs)
  have hml := HML1.out (j + 1) (by omega)
  have HSH : Hid (∀ W, Calls Tryz.prog 75 #[.int .i64 k, .agg #[.int .i64 s.1, .int .i64 s.2]] W fun e w' => e = .returned (.string (khT k s)) ∧ Below W.heap.size W w') := Lib.hid (fun W => rshtext_any k s W (by omega) (by omega) (by omega))
  have HTZ : Hid ((khT k s).size ≤ 60) := Lib.hid (khT_size k s (by omega) (by omega) (by omega))
  have HJ : Hid (∀ W : World, Calls Tryz.prog 72 #[.slice (some ⟨W.heap.size, 0, none⟩) 2 2] (W.alloc (.cells #[.string ⟨#[108, 101, 97, 102]⟩, .string (khT k s)] 9)) fun e w' => e = .returned (.string (jb [bLeaf, khT k s])) ∧ Below W.heap.size W w') := Lib.hid (fun W => (rjoined (some ⟨W.heap.size, 0, none⟩) 2 [bLeaf, khT k s] (W.alloc (.cells #[.string ⟨#[108, 101, 97, 102]⟩, .string (khT k s)] 9)) (Strs_new _ _ _ _ _ rfl rfl) (by simp) (by
    intro t h
    have hz := HTZ.out
    simp only [List.mem_cons, List.not_mem_nil, or_false] at h
    rcases h with rfl | rfl
    · decide
    · omega)).mono fun _ _ ⟨he, hb⟩ => ⟨he, below_trans (below_alloc (Below.refl _ _) _) hb⟩)
  have hdl : DL s = jb [bLeaf, khT k s] := by rw [HDL.out]
  clear hs hv hrd hpr e2
  go_wp2_with fail
  refine (HSH.out _).mono ?_
  rintro e w2 ⟨rfl, hb2⟩
  have HB2 := Lib.hid (below_trans HBj.out hb2)
  have HS2 := Lib.hid (row_below HSj.out hb2)
  have HO2 := Lib.hid (row_below HOj.out hb2)
  clear hb2 q1 q2 ql
  go_wp2_with fail
  refine (HJ.out w2).mono ?_
  rintro e w3 ⟨rfl, hb3⟩
  have HB3 := Lib.hid (below_trans HB2.out hb3)
  have HS3 := Lib.hid (row_below HS2.out hb3)
  have HO3 := Lib.hid (row_below HO2.out hb3)
  clear hb3
  obtain ⟨dl, hds⟩ : ∃ d, DL s = d := ⟨_, rfl⟩
  rw [← hdl, hds]
  have HDE := Lib.hid hds
  clear hdl hds
  have hsz : w.heap.size ≤ w3.heap.size := HB3.out.size
  go_wp2_with (at_builtin; refine wpList_app _ rfl (.tmp 31) (.tmp 40) 30 30 rfl w.heap.size 9 9 i0 _ 1 16 Tryz.underlying30 Tryz.underlying30 HI.out.1 HI.out.2.1 HI.out.2.2.1 HI.out.2.2.2 rfl (by omega) _ (k * m + j) _ rfl (HO3.out.alloc _) _ 1 1 [.string dl] rfl (Rd_new w3 #[.string dl] _ 1 1 _ rfl rfl) (by simp [Value.oneCell']) (by simp only [maxLen]; omega) (by omega) (by simp; omega) ?_)
  intro v1 w4 hown3 hg3
  have HS4 := Lib.hid ((HS3.out.alloc (.cells #[.string dl] 9)).kept hg3 (own_ne HS3.out HO3.out (by decide)))
  have HB4 : Hid (Below w.heap.size w w4) := Lib.hid ((below_alloc HB3.out _).grown hg3 (by simp; omega) (fun j hj => (HO3.out.lt j hj).1))
  have hO4 : w4.ownsRow w.heap.size 9 1 v1 (k * m + (j + 1)) ((KP k ++ (S.take (j + 1)).map DL).map Value.string) := by
    have e3 : (KP k ++ (S.take (j + 1)).map DL).map Value.string = (KP k ++ (S.take j).map DL).map Value.string ++ [.string dl] := by
      rw [HTK.out]; simp [HDE.out]
    rw [e3, show k * m + (j + 1) = k * m + j + 1 from rfl]
    first | exact hown3 | (simp only [List.map_append] at hown3 ⊢; exact hown3) | simpa using hown3
  have HO4 := Lib.hid hO4
  clear hown3 hg3 hO4
  go_wp2
  go_roundw
  case rel => exact ⟨j + 1, by omega, by go_num, HB4.out, HS4.out, HO4.out⟩
  case measure => simp [intOf]; omega
end

section
open Go.RowKit

theorem rwithin_any (n lo hi : Int) (w : World) :
    Calls Tryz.prog 55 #[.int .i64 n, .int .i64 lo, .int .i64 hi] w fun e w' => e = .returned (.bool (wiB n lo hi)) ∧ w = w' := by
  by_cases h1 : lo ≤ n
  · by_cases h2 : n ≤ hi
    · have hb : wiB n lo hi = true := decide_eq_true ⟨h1, h2⟩
      rw [hb]
      clear hb
      go_enter Tryz.func55, Tryz.ntmps55
      go_wp2
      go_ret
      exact ⟨rfl, rfl⟩
    · have hb : wiB n lo hi = false := decide_eq_false (fun h => h2 h.2)
      rw [hb]
      clear hb
      go_enter Tryz.func55, Tryz.ntmps55
      go_wp2
      go_ret
      exact ⟨rfl, rfl⟩
  · have hb : wiB n lo hi = false := decide_eq_false (fun h => h1 h.1)
    rw [hb]
    clear hb
    go_enter Tryz.func55, Tryz.ntmps55
    go_wp2
    go_ret
    exact ⟨rfl, rfl⟩
/-- A kept share is valid (in the reference). -/
def ktB (root : ByteArray) (n kp : Nat) (k : Kp) : Bool := wiB k.ix 0 ((n : Int) - 1) && validB k.s && decide (k.s.1 ≤ (kp : Int)) && kvB root n kp k.ix k.s k.p
/-- What is known of a kept share that Short lets pass. -/
structure KpS (w : World) (k : Kp) : Prop where
  f : KpFit w k
  cap : k.p.length ≤ k.c
  p12 : k.p.length ≤ 12
  sm : sm k.p
theorem KpS.below {w w' : World} {k : Kp} (h : KpS w k) (hb : Below w.heap.size w w') : KpS w' k := ⟨h.f.below hb, h.cap, h.p12, h.sm⟩
theorem KpS.of {w : World} {k : Kp} (h : shP k = true) (hi : KpIn w k) : KpS w k := by
  unfold shP at h
  rw [Bool.and_eq_true] at h
  have h1 := of_decide_eq_true h.1
  have h3 := h.2
  unfold fewB at h3
  rw [Bool.and_eq_true] at h3
  have h4 : ∀ s, s ∈ k.p → s.size ≤ 100 := fun s hs => of_decide_eq_true (List.all_eq_true.1 h3.1 s hs)
  exact ⟨⟨hi.p, by omega, fun s hs => by have := h4 s hs; omega, hi.ix, hi.x, hi.y⟩, hi.cap, h1, fun s hs => by have := h4 s hs; omega⟩
set_option maxRecDepth 100000 in
set_option maxHeartbeats 16000000 in
theorem rkept_any (cm : ByteArray × ByteArray) (n kp : Nat) (k : Kp) (w : World) (hn : n ≤ 600) (hkp : kp ≤ 9) (hk : KpS w k) :
    Calls Tryz.prog 36 #[.agg #[.string cm.1, .string cm.2], .int .i64 n, .int .i64 kp, .agg #[.int .i64 k.ix, .int .i64 k.s.1, .int .i64 k.s.2, .slice k.A k.p.length k.c]] w fun e w' => e = .returned (.bool (ktB cm.2 n kp k)) ∧ Below w.heap.size w w' := by
  obtain ⟨w0, hw0⟩ : ∃ w0, (w.alloc (.cells #[.string cm.1, .string cm.2] 29)).alloc (.cells #[.int .i64 k.ix, .int .i64 k.s.1, .int .i64 k.s.2, .slice k.A k.p.length k.c] 50) = w0 := ⟨_, rfl⟩
  have HB0 : Hid (Below w.heap.size w w0) := Lib.hid (by rw [← hw0]; exact below_alloc (below_alloc (Below.refl _ _) _) _)
  have HK : Hid (∀ W, Below w0.heap.size w0 W → Blk W w.heap.size 29 #[.string cm.1, .string cm.2] ∧ Blk W (w.heap.size + 1) 50 #[.int .i64 k.ix, .int .i64 k.s.1, .int .i64 k.s.2, .slice k.A k.p.length k.c]) := Lib.hid (fun W hW => by
    have h1 : Blk w0 w.heap.size 29 #[.string cm.1, .string cm.2] := by rw [← hw0]; exact (Blk.new w _ _ _ rfl).alloc _
    have h2 : Blk w0 (w.heap.size + 1) 50 #[.int .i64 k.ix, .int .i64 k.s.1, .int .i64 k.s.2, .slice k.A k.p.length k.c] := by rw [← hw0]; exact Blk.new _ _ _ _ (by simp)
    exact ⟨(hW.block _ h1.lt).trans h1, (hW.block _ h2.lt).trans h2⟩)
  have HIX := hk.f.ix
  obtain ⟨ixlo, ixhi⟩ := HIX
  have HWI := Lib.hid (fun (W : World) => rwithin_any k.ix 0 ((n : Int) - 1) W)
  have HVA := Lib.hid (fun (W : World) => rvalid_any k.s.1 k.s.2 W)
  have HKS := Lib.hid hk
  obtain ⟨b1, hb1⟩ : ∃ b, wiB k.ix 0 ((n : Int) - 1) = b := ⟨_, rfl⟩
  obtain ⟨b2, hb2⟩ : ∃ b, validB k.s = b := ⟨_, rfl⟩
  rw [hb1] at HWI
  rw [show ((k.s.1, k.s.2) : Int × Int) = k.s from rfl, hb2] at HVA
  obtain ⟨RS, hRS⟩ : ∃ b, ktB cm.2 n kp k = b := ⟨_, rfl⟩
  have HRS := Lib.hid hRS
  rw [hRS]
  have HB1 := Lib.hid hb1
  have HB2 := Lib.hid hb2
  have HW0 := Lib.hid hw0
  clear hk hb1 hb2 hRS hw0
  have z0 := (HK.out w0 (Below.refl _ _)).2.of_cell (i := 0) rfl
  have z1 := (HK.out w0 (Below.refl _ _)).2.of_cell (i := 1) rfl
  have z2 := (HK.out w0 (Below.refl _ _)).2.of_cell (i := 2) rfl
  have z3 := (HK.out w0 (Below.refl _ _)).2.of_cell (i := 3) rfl
  have zl := (HK.out w0 (Below.refl _ _)).2.lt
  have hnn : (-9223372036854775808 : Int) ≤ (n : Int) - 1 ∧ (n : Int) - 1 ≤ 9223372036854775807 := by omega
  go_enter Tryz.func36, Tryz.ntmps36
  go_wp2_with fail
  try rw [HW0.out]
  go_wp2_with fail
  refine (HWI.out w0).mono ?_
  rintro e w1 ⟨rfl, rfl⟩
  cases b1 with
  | false =>
    have hr : RS = false := by rw [← HRS.out]; unfold ktB; rw [HB1.out]; rfl
    subst hr
    go_wp2
    go_ret
    exact ⟨rfl, HB0.out⟩
  | true =>
  go_wp2_with fail
  refine (HVA.out w0).mono ?_
  rintro e w1 ⟨rfl, hw1⟩
  have HB1' : Hid (Below w0.heap.size w0 w1) := Lib.hid (by rw [← hw1]; exact below_alloc (Below.refl _ _) _)
  clear hw1
  clear z0 z1 z2 z3 zl
  have z0 := (HK.out w1 HB1'.out).2.of_cell (i := 0) rfl
  have z1 := (HK.out w1 HB1'.out).2.of_cell (i := 1) rfl
  have z2 := (HK.out w1 HB1'.out).2.of_cell (i := 2) rfl
  have z3 := (HK.out w1 HB1'.out).2.of_cell (i := 3) rfl
  have zl := (HK.out w1 HB1'.out).2.lt
  cases b2 with
  | false =>
    have hr : RS = false := by rw [← HRS.out]; unfold ktB; rw [HB1.out, HB2.out]; rfl
    subst hr
    go_wp2
    go_ret
    exact ⟨rfl, below_trans HB0.out HB1'.out⟩
  | true =>
  by_cases h3 : k.s.1 ≤ (kp : Int)
  case neg =>
    have hr : RS = false := by rw [← HRS.out]; unfold ktB; rw [decide_eq_false h3, Bool.and_false, Bool.false_and]
    subst hr
    go_wp2
    go_ret
    exact ⟨rfl, below_trans HB0.out HB1'.out⟩
  case pos =>
  have hwi := of_decide_eq_true HB1.out
  have hva : (1 ≤ k.s.1 ∧ k.s.1 ≤ 16) ∧ 0 ≤ k.s.2 ∧ k.s.2 < 2147483647 := by
    have h := HB2.out
    unfold validB at h
    simp only [Bool.and_eq_true, decide_eq_true_eq] at h
    have h2 := (elemB_iff k.s.2).1 (by simpa using h.2)
    exact ⟨by simpa using h.1, h2⟩
  have hkv : RS = kvB cm.2 n kp k.ix k.s k.p := by rw [← HRS.out]; unfold ktB; rw [HB1.out, HB2.out, decide_eq_true h3, Bool.true_and, Bool.true_and, Bool.true_and]
  have hm1 : 0 ≤ (n : Int) * (kp : Int) ∧ (n : Int) * (kp : Int) ≤ 5400 := by
    have h1 : n * kp ≤ 600 * 9 := Nat.mul_le_mul hn hkp
    rw [← Int.natCast_mul]; omega
  have hI : ((k.ix.toNat : Nat) : Int) = k.ix := by omega
  have hm2 : 0 ≤ k.ix * (kp : Int) ∧ k.ix * (kp : Int) ≤ 5400 := by
    have h1 : k.ix.toNat * kp ≤ 600 * 9 := Nat.mul_le_mul (by omega) hkp
    rw [← hI, ← Int.natCast_mul]; omega
  have HSH : Hid (∀ W, Calls Tryz.prog 75 #[.int .i64 k.ix, .agg #[.int .i64 k.s.1, .int .i64 k.s.2]] W fun e w' => e = .returned (.string (khT k.ix.toNat k.s)) ∧ Below W.heap.size W w') := Lib.hid (fun W => by
    have := rshtext_any k.ix.toNat k.s W (by omega) (by omega) hva.2
    rw [hI] at this
    exact this)
  have HLF : Hid (∀ W, Calls Tryz.prog 77 #[.string (khT k.ix.toNat k.s)] W fun e w' => e = .returned (.string (khLf k.ix.toNat k.s)) ∧ Below W.heap.size W w') := Lib.hid (fun W => rleaf_any _ (by have := khT_size k.ix.toNat k.s (by omega) (by omega) (by omega); omega) W)
  have hlz : (khLf k.ix.toNat k.s).size ≤ 200 := by have := isD_16 (khLf_D k.ix.toNat k.s); omega
  have HCH : Hid (∀ W, Below w.heap.size w W → Calls Tryz.prog 68 #[.string cm.2, .int .i64 ((n : Int) * (kp : Int)), .int .i64 (k.ix * (kp : Int) + k.s.1 - 1), .string (khLf k.ix.toNat k.s), .slice k.A k.p.length k.c] W fun e w' => e = .returned (.bool RS) ∧ Below W.heap.size W w') := Lib.hid (fun W hW => by
    have h := HKS.out.below hW
    have := rcheck_any cm.2 ((n : Int) * (kp : Int)) (k.ix * (kp : Int) + k.s.1 - 1) (khLf k.ix.toNat k.s) k.A k.c k.p W h.f.p h.f.pl h.cap hlz h.sm
    rw [hkv]
    exact this)
  obtain ⟨P1, hP1⟩ : ∃ x, (n : Int) * (kp : Int) = x := ⟨_, rfl⟩
  obtain ⟨P2, hP2⟩ : ∃ x, k.ix * (kp : Int) = x := ⟨_, rfl⟩
  rw [hP1] at hm1 HCH
  rw [hP2] at hm2 HCH
  obtain ⟨p1lo, p1hi⟩ := hm1
  obtain ⟨p2lo, p2hi⟩ := hm2
  obtain ⟨⟨x1, x16⟩, y0, yp⟩ := hva
  generalize khLf k.ix.toNat k.s = lfv at *
  generalize khT k.ix.toNat k.s = T at *
  clear hkv hlz hI hwi
  go_wp2_with fail
  clear z0 z1 z2 z3 zl
  have w1_ : IntKind.i64.wrap P1 = P1 := by rw [IntWalk.i64_in _ (by omega)]
  have w2_ : IntKind.i64.wrap P2 = P2 := by rw [IntWalk.i64_in _ (by omega)]
  have w3_ : IntKind.i64.wrap (P2 + k.s.1) = P2 + k.s.1 := by rw [IntWalk.i64_in _ (by omega)]
  have w4_ : IntKind.i64.wrap (P2 + k.s.1 - 1) = P2 + k.s.1 - 1 := by rw [IntWalk.i64_in _ (by omega)]
  refine wp_region_held_drew (S := fun W => Below w1.heap.size w1 W) (by kernel_rfl) ((Below.refl _ _).drew) (fun hS0 => ?_)
  refine wpAnyH_take (i := 0) (v := ?_) rfl (by kernel_rfl) (by kernel_rfl) (by kernel_rfl) (fun _ _ _ h => h) (Or.inl ⟨by kernel_rfl, ?hy⟩) hS0 ?rest
  case hy => (intro W hSw; clear hSw; go_simp; with_reducible rfl)
  case rest =>
  refine wpAnyH_take (i := 1) (v := ?_) rfl (by kernel_rfl) (by kernel_rfl) (by kernel_rfl) (fun _ _ _ h => h) (Or.inl ⟨by kernel_rfl, ?hy⟩) hS0 ?rest
  case hy => (intro W hSw; have zc := (HK.out W (below_trans HB1'.out hSw)).1.of_cell (i := 1) rfl; have zcl := (HK.out W (below_trans HB1'.out hSw)).1.lt; have z0 := (HK.out W (below_trans HB1'.out hSw)).2.of_cell (i := 0) rfl; have z1 := (HK.out W (below_trans HB1'.out hSw)).2.of_cell (i := 1) rfl; have z2 := (HK.out W (below_trans HB1'.out hSw)).2.of_cell (i := 2) rfl; have z3 := (HK.out W (below_trans HB1'.out hSw)).2.of_cell (i := 3) rfl; have zl := (HK.out W (below_trans HB1'.out hSw)).2.lt; clear hSw; go_simp; with_reducible rfl)
  case rest =>
  refine wpAnyH_take (i := 2) (v := ?_) rfl (by kernel_rfl) (by kernel_rfl) (by kernel_rfl) (fun _ _ _ h => h) (Or.inl ⟨by kernel_rfl, ?hy⟩) hS0 ?rest
  case hy => (intro W hSw; clear hSw; go_simp; with_reducible rfl)
  case rest =>
  refine wpAnyH_take (i := 3) (v := ?_) rfl (by kernel_rfl) (by kernel_rfl) (by kernel_rfl) (fun _ _ _ h => h) (Or.inl ⟨by kernel_rfl, ?hy⟩) hS0 ?rest
  case hy => (intro W hSw; clear hSw; go_simp; with_reducible rfl)
  case rest =>
  refine wpAnyH_take (i := 4) (v := ?_) rfl (by kernel_rfl) (by kernel_rfl) (by kernel_rfl) (fun _ _ _ h => h) (Or.inl ⟨by kernel_rfl, ?hy⟩) hS0 ?rest
  case hy => (intro W hSw; clear hSw; go_simp; with_reducible rfl)
  case rest =>
  refine wpAnyH_take (i := 5) (v := ?_) rfl (by kernel_rfl) (by kernel_rfl) (by kernel_rfl) (fun _ _ _ h => h) (Or.inl ⟨by kernel_rfl, ?hy⟩) hS0 ?rest
  case hy => (intro W hSw; clear hSw; go_simp; with_reducible rfl)
  case rest =>
  try go_simp
  refine wpAnyH_take (i := 6) (v := ?_) rfl (by kernel_rfl) (by kernel_rfl) (by kernel_rfl) (fun _ _ _ h => h) (Or.inl ⟨by kernel_rfl, ?hy⟩) hS0 ?rest
  case hy => (intro W hSw; have zc := (HK.out W (below_trans HB1'.out hSw)).1.of_cell (i := 1) rfl; have zcl := (HK.out W (below_trans HB1'.out hSw)).1.lt; have z0 := (HK.out W (below_trans HB1'.out hSw)).2.of_cell (i := 0) rfl; have z1 := (HK.out W (below_trans HB1'.out hSw)).2.of_cell (i := 1) rfl; have z2 := (HK.out W (below_trans HB1'.out hSw)).2.of_cell (i := 2) rfl; have z3 := (HK.out W (below_trans HB1'.out hSw)).2.of_cell (i := 3) rfl; have zl := (HK.out W (below_trans HB1'.out hSw)).2.lt; clear hSw; go_simp; with_reducible rfl)
  case rest =>
  refine wpAnyH_take (i := 7) (v := ?_) rfl (by kernel_rfl) (by kernel_rfl) (by kernel_rfl) (fun _ _ _ h => h) (Or.inl ⟨by kernel_rfl, ?hy⟩) hS0 ?rest
  case hy => (intro W hSw; clear hSw; go_simp; with_reducible rfl)
  case rest =>
  refine wpAnyH_take (i := 8) (v := ?_) rfl (by kernel_rfl) (by kernel_rfl) (by kernel_rfl) (fun _ _ _ h => h) (Or.inl ⟨by kernel_rfl, ?hy⟩) hS0 ?rest
  case hy => (intro W hSw; clear hSw; go_simp; with_reducible rfl)
  case rest =>
  refine wpAnyH_take (i := 9) (v := ?_) rfl (by kernel_rfl) (by kernel_rfl) (by kernel_rfl) (fun _ _ _ h => h) (Or.inl ⟨by kernel_rfl, ?hy⟩) hS0 ?rest
  case hy => (intro W hSw; clear hSw; go_simp; with_reducible rfl)
  case rest =>
  refine wpAnyH_take (i := 10) (v := ?_) rfl (by kernel_rfl) (by kernel_rfl) (by kernel_rfl) (fun _ _ _ h => h) (Or.inl ⟨by kernel_rfl, ?hy⟩) hS0 ?rest
  case hy => (intro W hSw; clear hSw; go_simp; with_reducible rfl)
  case rest =>
  refine wpAnyH_take (i := 11) (v := ?_) rfl (by kernel_rfl) (by kernel_rfl) (by kernel_rfl) (fun _ _ _ h => h) (Or.inl ⟨by kernel_rfl, ?hy⟩) hS0 ?rest
  case hy => (intro W hSw; have zc := (HK.out W (below_trans HB1'.out hSw)).1.of_cell (i := 1) rfl; have zcl := (HK.out W (below_trans HB1'.out hSw)).1.lt; have z0 := (HK.out W (below_trans HB1'.out hSw)).2.of_cell (i := 0) rfl; have z1 := (HK.out W (below_trans HB1'.out hSw)).2.of_cell (i := 1) rfl; have z2 := (HK.out W (below_trans HB1'.out hSw)).2.of_cell (i := 2) rfl; have z3 := (HK.out W (below_trans HB1'.out hSw)).2.of_cell (i := 3) rfl; have zl := (HK.out W (below_trans HB1'.out hSw)).2.lt; clear hSw; go_simp; with_reducible rfl)
  case rest =>
  try go_simp
  refine wpAnyH_take (i := 12) (v := ?_) rfl (by kernel_rfl) (by kernel_rfl) (by kernel_rfl) (fun _ _ _ h => h) (Or.inl ⟨by kernel_rfl, ?hy⟩) hS0 ?rest
  case hy => (intro W hSw; clear hSw; go_simp; with_reducible rfl)
  case rest =>
  refine wpAnyH_take (i := 13) (v := ?_) rfl (by kernel_rfl) (by kernel_rfl) (by kernel_rfl) (fun _ _ _ h => h) (Or.inl ⟨by kernel_rfl, ?hy⟩) hS0 ?rest
  case hy => (intro W hSw; clear hSw; go_simp; with_reducible rfl)
  case rest =>
  refine wpAnyH_take (i := 14) (v := ?_) rfl (by kernel_rfl) (by kernel_rfl) (by kernel_rfl) (fun _ _ _ h => h) (Or.inl ⟨by kernel_rfl, ?hy⟩) hS0 ?rest
  case hy => (intro W hSw; clear hSw; go_simp; with_reducible rfl)
  case rest =>
  refine wpAnyH_take (i := 15) (v := ?_) rfl (by kernel_rfl) (by kernel_rfl) (by kernel_rfl) (fun _ _ _ h => h) (Or.inl ⟨by kernel_rfl, ?hy⟩) hS0 ?rest
  case hy => (intro W hSw; have zc := (HK.out W (below_trans HB1'.out hSw)).1.of_cell (i := 1) rfl; have zcl := (HK.out W (below_trans HB1'.out hSw)).1.lt; have z0 := (HK.out W (below_trans HB1'.out hSw)).2.of_cell (i := 0) rfl; have z1 := (HK.out W (below_trans HB1'.out hSw)).2.of_cell (i := 1) rfl; have z2 := (HK.out W (below_trans HB1'.out hSw)).2.of_cell (i := 2) rfl; have z3 := (HK.out W (below_trans HB1'.out hSw)).2.of_cell (i := 3) rfl; have zl := (HK.out W (below_trans HB1'.out hSw)).2.lt; clear hSw; go_simp; with_reducible rfl)
  case rest =>
  refine wpAnyH_take (i := 16) (v := ?_) rfl (by kernel_rfl) (by kernel_rfl) (by kernel_rfl) (fun _ _ _ h => h) (Or.inl ⟨by kernel_rfl, ?hy⟩) hS0 ?rest
  case hy => (intro W hSw; clear hSw; go_simp; with_reducible rfl)
  case rest =>
  refine wpAnyH_take (i := 17) (v := ?_) rfl (by kernel_rfl) (by kernel_rfl) (by kernel_rfl) (fun _ _ _ h => h) (Or.inl ⟨by kernel_rfl, ?hy⟩) hS0 ?rest
  case hy => (intro W hSw; have zc := (HK.out W (below_trans HB1'.out hSw)).1.of_cell (i := 1) rfl; have zcl := (HK.out W (below_trans HB1'.out hSw)).1.lt; have z0 := (HK.out W (below_trans HB1'.out hSw)).2.of_cell (i := 0) rfl; have z1 := (HK.out W (below_trans HB1'.out hSw)).2.of_cell (i := 1) rfl; have z2 := (HK.out W (below_trans HB1'.out hSw)).2.of_cell (i := 2) rfl; have z3 := (HK.out W (below_trans HB1'.out hSw)).2.of_cell (i := 3) rfl; have zl := (HK.out W (below_trans HB1'.out hSw)).2.lt; clear hSw; go_simp; with_reducible rfl)
  case rest =>
  try go_simp
  refine wpAnyH_take (i := 20) (v := ?_) rfl (by kernel_rfl) (by kernel_rfl) (by kernel_rfl) (fun _ _ _ h => h) (Or.inl ⟨by kernel_rfl, ?hy⟩) hS0 ?rest
  case hy => (intro W hSw; clear hSw; go_simp; with_reducible rfl)
  case rest =>
  refine wpAnyH_take (i := 21) (v := ?_) rfl (by kernel_rfl) (by kernel_rfl) (by kernel_rfl) (fun _ _ _ h => h) (Or.inl ⟨by kernel_rfl, ?hy⟩) hS0 ?rest
  case hy => (intro W hSw; have zc := (HK.out W (below_trans HB1'.out hSw)).1.of_cell (i := 1) rfl; have zcl := (HK.out W (below_trans HB1'.out hSw)).1.lt; have z0 := (HK.out W (below_trans HB1'.out hSw)).2.of_cell (i := 0) rfl; have z1 := (HK.out W (below_trans HB1'.out hSw)).2.of_cell (i := 1) rfl; have z2 := (HK.out W (below_trans HB1'.out hSw)).2.of_cell (i := 2) rfl; have z3 := (HK.out W (below_trans HB1'.out hSw)).2.of_cell (i := 3) rfl; have zl := (HK.out W (below_trans HB1'.out hSw)).2.lt; clear hSw; go_simp; with_reducible rfl)
  case rest =>
  refine wpAnyH_ready (rs := [18]) (by kernel_rfl) (by simp) ?_
  refine AllReadyH.cons rfl (fun K hK => ?_) (AllReadyH.nil)
  go_simp
  refine (HSH.out _).mono ?_
  rintro e w2 ⟨rfl, hb⟩
  have HY1 := Lib.hid (below_trans hS0 hb)
  clear hb
  go_simp
  refine hK.out _ _ HY1.out (fun hS1 => ?_)
  clear hK K
  refine wpAnyH_ready (rs := [19]) (by kernel_rfl) (by simp) ?_
  refine AllReadyH.cons rfl (fun K hK => ?_) (AllReadyH.nil)
  go_simp
  refine (HLF.out w2).mono ?_
  rintro e w3 ⟨rfl, hb⟩
  have HY2 := Lib.hid (below_trans HY1.out hb)
  clear hb
  go_simp
  refine hK.out _ _ HY2.out (fun hS2 => ?_)
  clear hK K
  refine wpAnyH_ready (rs := [22]) (by kernel_rfl) (by simp) ?_
  refine AllReadyH.cons rfl (fun K hK => ?_) (AllReadyH.nil)
  go_simp
  refine (HCH.out w3 (below_trans HB0.out (below_trans HB1'.out HY2.out))).mono ?_
  rintro e w4 ⟨rfl, hb⟩
  have HY3 := Lib.hid (below_trans HY2.out hb)
  clear hb
  go_simp
  refine hK.out _ _ HY3.out (fun hS3 => ?_)
  clear hK K
  refine wpAnyH_take (i := 23) (v := ?_) rfl (by kernel_rfl) (by kernel_rfl) (by kernel_rfl) (fun _ _ _ h => h) (Or.inl ⟨by kernel_rfl, ?hy⟩) hS3 ?rest
  case hy => (intro W hSw; clear hSw; go_simp; with_reducible rfl)
  case rest =>
  refine wpAnyH_done (by kernel_rfl) ?_ _
  go_wp2
  go_ret
  exact ⟨rfl, below_trans HB0.out (below_trans HB1'.out HY3.out)⟩
end

section
open Go.RowKit

set_option maxRecDepth 100000 in
set_option maxHeartbeats 16000000 in
theorem rkttexts_any (n kp : Nat) (k : Kp) (w : World) (hn : n ≤ 600) (hkp : kp ≤ 9) (hk : KpS w k) (hi : 0 ≤ k.ix ∧ k.ix < n) (hx : 1 ≤ k.s.1 ∧ k.s.1 ≤ kp) (hy : 0 ≤ k.s.2 ∧ k.s.2 < 2147483647) (hpl : k.p.length = plen (n * kp) (k.ix.toNat * kp + (k.s.1 - 1).toNat)) :
    Calls Tryz.prog 37 #[.int .i64 n, .int .i64 kp, .agg #[.int .i64 k.ix, .int .i64 k.s.1, .int .i64 k.s.2, .slice k.A k.p.length k.c]] w fun e w' => ∃ u, e = .returned u ∧ w'.ownsRow w.heap.size 9 1 u (kkTx n kp k.ix.toNat k.s k.p).length ((kkTx n kp k.ix.toNat k.s k.p).map Value.string) ∧ Below w.heap.size w w' := by
  obtain ⟨w0, hw0⟩ : ∃ w0, w.alloc (.cells #[.int .i64 k.ix, .int .i64 k.s.1, .int .i64 k.s.2, .slice k.A k.p.length k.c] 50) = w0 := ⟨_, rfl⟩
  have HB0 : Hid (Below w.heap.size w w0) := Lib.hid (by rw [← hw0]; exact below_alloc (Below.refl _ _) _)
  have HK : Hid (∀ W, Below w0.heap.size w0 W → Blk W w.heap.size 50 #[.int .i64 k.ix, .int .i64 k.s.1, .int .i64 k.s.2, .slice k.A k.p.length k.c]) := Lib.hid (fun W hW => by
    have h2 : Blk w0 w.heap.size 50 #[.int .i64 k.ix, .int .i64 k.s.1, .int .i64 k.s.2, .slice k.A k.p.length k.c] := by rw [← hw0]; exact Blk.new _ _ _ _ (by simp)
    exact (hW.block _ h2.lt).trans h2)
  obtain ⟨i0', i1'⟩ := hi
  obtain ⟨x1, xk⟩ := hx
  have hI : ((k.ix.toNat : Nat) : Int) = k.ix := by omega
  have HTZ : (khT k.ix.toNat k.s).size ≤ 60 := khT_size k.ix.toNat k.s (by omega) (by omega) (by omega)
  have HSH : Hid (∀ W, Calls Tryz.prog 75 #[.int .i64 k.ix, .agg #[.int .i64 k.s.1, .int .i64 k.s.2]] W fun e w' => e = .returned (.string (khT k.ix.toNat k.s)) ∧ Below W.heap.size W w') := Lib.hid (fun W => by
    have := rshtext_any k.ix.toNat k.s W (by omega) (by omega) hy
    rw [hI] at this
    exact this)
  have HLF : Hid (∀ W, Calls Tryz.prog 77 #[.string (khT k.ix.toNat k.s)] W fun e w' => e = .returned (.string (khLf k.ix.toNat k.s)) ∧ Below W.heap.size W w') := Lib.hid (fun W => rleaf_any _ (by omega) W)
  have HJ : Hid (∀ W : World, Calls Tryz.prog 72 #[.slice (some ⟨W.heap.size, 0, none⟩) 2 2] (W.alloc (.cells #[.string ⟨#[108, 101, 97, 102]⟩, .string (khT k.ix.toNat k.s)] 9)) fun e w' => e = .returned (.string (jb [bLeaf, khT k.ix.toNat k.s])) ∧ Below W.heap.size W w') := Lib.hid (fun W => (rjoined (some ⟨W.heap.size, 0, none⟩) 2 [bLeaf, khT k.ix.toNat k.s] (W.alloc (.cells #[.string ⟨#[108, 101, 97, 102]⟩, .string (khT k.ix.toNat k.s)] 9)) (Strs_new _ _ _ _ _ rfl rfl) (by simp) (by
    intro t h
    simp only [List.mem_cons, List.not_mem_nil, or_false] at h
    rcases h with rfl | rfl
    · decide
    · omega)).mono fun _ _ ⟨he, hb⟩ => ⟨he, below_trans (below_alloc (Below.refl _ _) _) hb⟩)
  have hb1 : n * kp ≤ 600 * 9 := Nat.mul_le_mul hn hkp
  have hb2 : k.ix.toNat * kp + (k.s.1 - 1).toNat < n * kp := by
    have h1 : (k.ix.toNat + 1) * kp ≤ n * kp := Nat.mul_le_mul_right kp (by omega)
    rw [Nat.add_mul, Nat.one_mul] at h1
    omega
  have e2 : ((k.ix.toNat * kp + (k.s.1 - 1).toNat : Nat) : Int) = k.ix * (kp : Int) + k.s.1 - 1 := by
    rw [Int.natCast_add, Int.natCast_mul, hI]; omega
  have hm2 : 0 ≤ k.ix * (kp : Int) ∧ k.ix * (kp : Int) ≤ 5400 := by
    have h1 : k.ix.toNat * kp ≤ 600 * 9 := Nat.mul_le_mul (by omega) hkp
    rw [← hI, ← Int.natCast_mul]; omega
  have HPX : Hid (∀ W, Below w.heap.size w W → Calls Tryz.prog 74 #[.int .i64 ((n : Int) * (kp : Int)), .int .i64 (k.ix * (kp : Int) + k.s.1 - 1), .string (khLf k.ix.toNat k.s), .slice k.A k.p.length k.c] W fun e w' => ∃ u, e = .returned u ∧ w'.ownsRow W.heap.size 9 1 u (ptx (n * kp) (k.ix.toNat * kp + (k.s.1 - 1).toNat) (khLf k.ix.toNat k.s) k.p).length ((ptx (n * kp) (k.ix.toNat * kp + (k.s.1 - 1).toNat) (khLf k.ix.toNat k.s) k.p).map Value.string) ∧ Below W.heap.size W w') := Lib.hid (fun W hW => by
    have h := hk.below hW
    have := rptx_any (n * kp) (n * kp) (k.ix.toNat * kp + (k.s.1 - 1).toNat) (khLf k.ix.toNat k.s) k.A k.c k.p W (Nat.le_refl _) (by omega) (by omega) hb2 hpl h.cap h.f.p h.sm (by have := isD_16 (khLf_D k.ix.toNat k.s); omega)
    rw [e2, Int.natCast_mul] at this
    exact this)
  have HXL : Hid ((ptx (n * kp) (k.ix.toNat * kp + (k.s.1 - 1).toNat) (khLf k.ix.toNat k.s) k.p).length ≤ 12) := Lib.hid (by rw [ptx_len, ← hpl]; exact hk.p12)
  have HEQ : Hid (kkTx n kp k.ix.toNat k.s k.p = [jb [bLeaf, khT k.ix.toNat k.s]] ++ ptx (n * kp) (k.ix.toNat * kp + (k.s.1 - 1).toNat) (khLf k.ix.toNat k.s) k.p) := Lib.hid rfl
  obtain ⟨i0, hi0, hz0, hz1, hz2⟩ := info_parts info_strg
  have HI := Lib.hid (And.intro hi0 (And.intro hz0 (And.intro hz1 hz2)))
  obtain ⟨P1, hP1⟩ : ∃ x, (n : Int) * (kp : Int) = x := ⟨_, rfl⟩
  obtain ⟨P2, hP2⟩ : ∃ x, k.ix * (kp : Int) = x := ⟨_, rfl⟩
  have hm1 : 0 ≤ P1 ∧ P1 ≤ 5400 := by rw [← hP1, ← Int.natCast_mul]; omega
  rw [hP1] at HPX
  rw [hP2] at hm2 HPX
  obtain ⟨p1lo, p1hi⟩ := hm1
  obtain ⟨p2lo, p2hi⟩ := hm2
  have w1_ : IntKind.i64.wrap P1 = P1 := by rw [IntWalk.i64_in _ (by omega)]
  have w2_ : IntKind.i64.wrap P2 = P2 := by rw [IntWalk.i64_in _ (by omega)]
  have w3_ : IntKind.i64.wrap (P2 + k.s.1) = P2 + k.s.1 := by rw [IntWalk.i64_in _ (by omega)]
  have w4_ : IntKind.i64.wrap (P2 + k.s.1 - 1) = P2 + k.s.1 - 1 := by rw [IntWalk.i64_in _ (by omega)]
  generalize kkTx n kp k.ix.toNat k.s k.p = TT at *
  generalize ptx (n * kp) (k.ix.toNat * kp + (k.s.1 - 1).toNat) (khLf k.ix.toNat k.s) k.p = X at *
  generalize khLf k.ix.toNat k.s = lfv at *
  generalize jb [bLeaf, khT k.ix.toNat k.s] = J at *
  generalize khT k.ix.toNat k.s = T at *
  have HW0 := Lib.hid hw0
  clear hk hpl hi0 hz0 hz1 hz2 hw0 hI HTZ hb1 hb2 e2
  have z0 := (HK.out w0 (Below.refl _ _)).of_cell (i := 0) rfl
  have z1 := (HK.out w0 (Below.refl _ _)).of_cell (i := 1) rfl
  have z2 := (HK.out w0 (Below.refl _ _)).of_cell (i := 2) rfl
  have z3 := (HK.out w0 (Below.refl _ _)).of_cell (i := 3) rfl
  have zl := (HK.out w0 (Below.refl _ _)).lt
  go_enter Tryz.func37, Tryz.ntmps37
  go_wp2_with fail
  try rw [HW0.out]
  go_wp2_with fail
  refine (HSH.out w0).mono ?_
  rintro e w1 ⟨rfl, hb⟩
  have HB1 := Lib.hid hb
  clear hb z0 z1 z2 z3 zl
  go_wp2_with fail
  refine (HJ.out w1).mono ?_
  rintro e w2 ⟨rfl, hb⟩
  have HB2 := Lib.hid (below_trans HB1.out hb)
  clear hb
  obtain ⟨w3, hw3⟩ : ∃ w3, w2.alloc (.cells #[.string J] 9) = w3 := ⟨_, rfl⟩
  have HO3 : Hid (w3.ownsRow w2.heap.size 9 1 (.slice (some ⟨w2.heap.size, 0, none⟩) 1 1) 1 [.string J]) := Lib.hid (by rw [← hw3]; exact own_lit w2 #[.string J] _ 1 1 rfl (by decide))
  have HB3 : Hid (Below w0.heap.size w0 w3) := Lib.hid (by rw [← hw3]; exact below_alloc HB2.out _)
  have HW3 : Hid (w2.alloc (.cells #[.string J] 9) = w3) := Lib.hid hw3
  clear hw3
  go_wp2_with fail
  try rw [HW3.out]
  refine wp_region_held_drew (S := fun W => Below w0.heap.size w0 W) (by kernel_rfl) (HB3.out.drew) (fun hS0 => ?_)
  refine wpAnyH_take (i := 0) (v := ?_) rfl (by kernel_rfl) (by kernel_rfl) (by kernel_rfl) (fun _ _ _ h => h) (Or.inl ⟨by kernel_rfl, ?hy⟩) hS0 ?rest
  case hy => (intro W hSw; clear hSw; go_simp; with_reducible rfl)
  case rest =>
  refine wpAnyH_take (i := 1) (v := ?_) rfl (by kernel_rfl) (by kernel_rfl) (by kernel_rfl) (fun _ _ _ h => h) (Or.inl ⟨by kernel_rfl, ?hy⟩) hS0 ?rest
  case hy => (intro W hSw; clear hSw; go_simp; with_reducible rfl)
  case rest =>
  refine wpAnyH_take (i := 2) (v := ?_) rfl (by kernel_rfl) (by kernel_rfl) (by kernel_rfl) (fun _ _ _ h => h) (Or.inl ⟨by kernel_rfl, ?hy⟩) hS0 ?rest
  case hy => (intro W hSw; clear hSw; go_simp; with_reducible rfl)
  case rest =>
  refine wpAnyH_take (i := 3) (v := ?_) rfl (by kernel_rfl) (by kernel_rfl) (by kernel_rfl) (fun _ _ _ h => h) (Or.inl ⟨by kernel_rfl, ?hy⟩) hS0 ?rest
  case hy => (intro W hSw; clear hSw; go_simp; with_reducible rfl)
  case rest =>
  refine wpAnyH_take (i := 4) (v := ?_) rfl (by kernel_rfl) (by kernel_rfl) (by kernel_rfl) (fun _ _ _ h => h) (Or.inl ⟨by kernel_rfl, ?hy⟩) hS0 ?rest
  case hy => (intro W hSw; clear hSw; go_simp; with_reducible rfl)
  case rest =>
  refine wpAnyH_take (i := 5) (v := ?_) rfl (by kernel_rfl) (by kernel_rfl) (by kernel_rfl) (fun _ _ _ h => h) (Or.inl ⟨by kernel_rfl, ?hy⟩) hS0 ?rest
  case hy => (intro W hSw; have z0 := (HK.out W hSw).of_cell (i := 0) rfl; have z1 := (HK.out W hSw).of_cell (i := 1) rfl; have z2 := (HK.out W hSw).of_cell (i := 2) rfl; have z3 := (HK.out W hSw).of_cell (i := 3) rfl; have zl := (HK.out W hSw).lt; clear hSw; go_simp; with_reducible rfl)
  case rest =>
  try go_simp
  refine wpAnyH_take (i := 6) (v := ?_) rfl (by kernel_rfl) (by kernel_rfl) (by kernel_rfl) (fun _ _ _ h => h) (Or.inl ⟨by kernel_rfl, ?hy⟩) hS0 ?rest
  case hy => (intro W hSw; clear hSw; go_simp; with_reducible rfl)
  case rest =>
  refine wpAnyH_take (i := 7) (v := ?_) rfl (by kernel_rfl) (by kernel_rfl) (by kernel_rfl) (fun _ _ _ h => h) (Or.inl ⟨by kernel_rfl, ?hy⟩) hS0 ?rest
  case hy => (intro W hSw; clear hSw; go_simp; with_reducible rfl)
  case rest =>
  refine wpAnyH_take (i := 8) (v := ?_) rfl (by kernel_rfl) (by kernel_rfl) (by kernel_rfl) (fun _ _ _ h => h) (Or.inl ⟨by kernel_rfl, ?hy⟩) hS0 ?rest
  case hy => (intro W hSw; clear hSw; go_simp; with_reducible rfl)
  case rest =>
  refine wpAnyH_take (i := 9) (v := ?_) rfl (by kernel_rfl) (by kernel_rfl) (by kernel_rfl) (fun _ _ _ h => h) (Or.inl ⟨by kernel_rfl, ?hy⟩) hS0 ?rest
  case hy => (intro W hSw; clear hSw; go_simp; with_reducible rfl)
  case rest =>
  refine wpAnyH_take (i := 10) (v := ?_) rfl (by kernel_rfl) (by kernel_rfl) (by kernel_rfl) (fun _ _ _ h => h) (Or.inl ⟨by kernel_rfl, ?hy⟩) hS0 ?rest
  case hy => (intro W hSw; have z0 := (HK.out W hSw).of_cell (i := 0) rfl; have z1 := (HK.out W hSw).of_cell (i := 1) rfl; have z2 := (HK.out W hSw).of_cell (i := 2) rfl; have z3 := (HK.out W hSw).of_cell (i := 3) rfl; have zl := (HK.out W hSw).lt; clear hSw; go_simp; with_reducible rfl)
  case rest =>
  refine wpAnyH_take (i := 11) (v := ?_) rfl (by kernel_rfl) (by kernel_rfl) (by kernel_rfl) (fun _ _ _ h => h) (Or.inl ⟨by kernel_rfl, ?hy⟩) hS0 ?rest
  case hy => (intro W hSw; clear hSw; go_simp; with_reducible rfl)
  case rest =>
  try go_simp
  refine wpAnyH_take (i := 12) (v := ?_) rfl (by kernel_rfl) (by kernel_rfl) (by kernel_rfl) (fun _ _ _ h => h) (Or.inl ⟨by kernel_rfl, ?hy⟩) hS0 ?rest
  case hy => (intro W hSw; clear hSw; go_simp; with_reducible rfl)
  case rest =>
  refine wpAnyH_take (i := 13) (v := ?_) rfl (by kernel_rfl) (by kernel_rfl) (by kernel_rfl) (fun _ _ _ h => h) (Or.inl ⟨by kernel_rfl, ?hy⟩) hS0 ?rest
  case hy => (intro W hSw; clear hSw; go_simp; with_reducible rfl)
  case rest =>
  refine wpAnyH_take (i := 15) (v := ?_) rfl (by kernel_rfl) (by kernel_rfl) (by kernel_rfl) (fun _ _ _ h => h) (Or.inl ⟨by kernel_rfl, ?hy⟩) hS0 ?rest
  case hy => (intro W hSw; clear hSw; go_simp; with_reducible rfl)
  case rest =>
  refine wpAnyH_take (i := 16) (v := ?_) rfl (by kernel_rfl) (by kernel_rfl) (by kernel_rfl) (fun _ _ _ h => h) (Or.inl ⟨by kernel_rfl, ?hy⟩) hS0 ?rest
  case hy => (intro W hSw; have z0 := (HK.out W hSw).of_cell (i := 0) rfl; have z1 := (HK.out W hSw).of_cell (i := 1) rfl; have z2 := (HK.out W hSw).of_cell (i := 2) rfl; have z3 := (HK.out W hSw).of_cell (i := 3) rfl; have zl := (HK.out W hSw).lt; clear hSw; go_simp; with_reducible rfl)
  case rest =>
  refine wpAnyH_ready (rs := [14]) (by kernel_rfl) (by simp) ?_
  refine AllReadyH.cons rfl (fun K hK => ?_) (AllReadyH.nil)
  go_simp
  refine (HLF.out _).mono ?_
  rintro e w4 ⟨rfl, hb⟩
  have HB4 := Lib.hid (below_trans (Below.refl w3.heap.size w3).drew hb)
  have HW4 := Lib.hid (below_trans HB3.out HB4.out)
  clear hb
  go_simp
  refine hK.out _ _ HW4.out (fun hS1 => ?_)
  clear hK K
  refine wpAnyH_ready (rs := [17]) (by kernel_rfl) (by simp) ?_
  refine AllReadyH.cons rfl (fun K hK => ?_) (AllReadyH.nil)
  go_simp
  refine (HPX.out w4 (below_trans HB0.out HW4.out)).mono ?_
  rintro e w5 ⟨u5, rfl, ho, hb⟩
  have HB5 := Lib.hid (below_trans HB4.out hb)
  have HW5 := Lib.hid (below_trans HB3.out HB5.out)
  obtain ⟨A5, c5, rfl, -, -, hr5⟩ := Rd.of_own ho
  have HR5 := Lib.hid hr5
  clear hb ho hr5
  go_simp
  refine hK.out _ _ HW5.out (fun hS2 => ?_)
  clear hK K
  refine wpAnyH_ready (rs := [18]) (by kernel_rfl) (by simp) ?_
  refine AllReadyH.cons rfl (fun K hK => ?_) (AllReadyH.nil)
  refine step_appT w5 (by kernel_rfl) (.tmp 18) (.tmp 35) 30 30 rfl w2.heap.size 9 9 i0 _ 1 16 Tryz.underlying30 Tryz.underlying30 HI.out.1 HI.out.2.1 HI.out.2.2.1 HI.out.2.2.2 rfl (by omega) (.slice (some ⟨w2.heap.size, 0, none⟩) 1 1) 1 _ (by kernel_rfl) (row_below HO3.out HB5.out) A5 X.length c5 (X.map Value.string) (by kernel_rfl) HR5.out (by intro u hu; obtain ⟨t, _, rfl⟩ := List.mem_map.1 hu; rfl) (by have := HXL.out; simp only [maxLen]; omega) (by have := HXL.out; omega) (Nat.le_trans (by have := HB2.out.size; have := HB3.out.size; have h3 := (row_below HO3.out HB5.out).lt w2.heap.size rfl; omega) (Nat.le_refl w5.heap.size)) ?_
  intro v6 w6 hown hg
  have h23 : w0.heap.size ≤ w2.heap.size := HB2.out.size
  have HB6 : Hid (Below w0.heap.size w0 w6) := Lib.hid (HW5.out.grown hg HW5.out.size (fun j hj => Nat.le_trans h23 ((row_below HO3.out HB5.out).lt j hj).1))
  have HBF := Lib.hid (below_trans HB0.out HB6.out)
  have e3 : [.string J] ++ X.map Value.string = TT.map Value.string := by rw [HEQ.out, List.map_append]; rfl
  rw [e3] at hown
  have hlen : 1 + X.length = TT.length := by rw [HEQ.out]; simp; omega
  rw [hlen] at hown
  have HOF : Hid (w6.ownsRow w.heap.size 9 1 v6 TT.length (TT.map Value.string)) := Lib.hid (row_mono hown (Nat.le_trans HB0.out.size h23))
  clear hown hg e3 hlen h23
  refine hK.out _ _ HB6.out (fun hS3 => ?_)
  clear hK K
  refine wpAnyH_take (i := 19) (v := ?_) rfl (by kernel_rfl) (by kernel_rfl) (by kernel_rfl) (fun _ _ _ h => h) (Or.inl ⟨by kernel_rfl, ?hy⟩) hS3 ?rest
  case hy => (intro W hSw; clear hSw; go_simp; with_reducible rfl)
  case rest =>
  refine wpAnyH_done (by kernel_rfl) ?_ _
  go_wp2
  go_ret
  exact ⟨_, rfl, HOF.out, HBF.out⟩
end

end Go.Proofs.YtjfondfjdhjooaaGreatDoor
