/- The reference of layer 6: In, mul, minus, power, all, Eval. The reference of layer 6: Interpolate. append inside a region that draws (a step of wpAnyH). Join of the reference at all arguments. Plain: what Join computes does not depend on the order of the shares. A block of ints that the call made by make, filled place by place. A slice of strings as an argument. The reference of layer 2: digests, length, Leaf, Root, Check. tree: the reference's Path. Split of the program where an element is not of the field. Split of the reference at all arguments. (So far: the answers ErrArg.) Split of the reference at all arguments: its loops. -/
import Derived.Test.YtjfondfjdhjooaaGreatDoorCbD
import Derived.Deep.RegionHeld3
namespace Go.Proofs.YtjfondfjdhjooaaGreatDoor
set_option linter.unusedVariables false
set_option linter.unusedSimpArgs false

section
open Go.RowKit

theorem rin_any (a : Int) (w : World) :
    Calls Tryz.prog 91 #[.int .i64 a] w fun e w' => e = .returned (.bool (elemB a)) ∧ w = w' := by
  by_cases h0 : 0 ≤ a
  · by_cases h1 : a < 2147483647
    · have h2 : a ≤ 2147483646 := by omega
      go_enter Tryz.func91, Tryz.ntmps91
      go_wp2
      go_ret
      exact ⟨by simp [elemB, h0, h1], rfl⟩
    · have h2 : ¬ a ≤ 2147483646 := by omega
      go_enter Tryz.func91, Tryz.ntmps91
      go_wp2
      go_ret
      exact ⟨by simp [elemB, h0, h1], rfl⟩
  · go_enter Tryz.func91, Tryz.ntmps91
    go_wp2
    go_ret
    exact ⟨by simp [elemB]; omega, rfl⟩

theorem rmul_any (a b : Int) (w : World) (ha : 0 ≤ a) (ha' : a ≤ 2147483647) (hb : 0 ≤ b) (hb' : b ≤ 2147483647) :
    Calls Tryz.prog 155 #[.int .i64 a, .int .i64 b] w fun e w' => e = .returned (.int .i64 (a * b % 2147483647)) ∧ w = w' := by
  obtain ⟨h0, h1⟩ := mul_range a b ha ha' hb hb'
  have ht : (a * b).tmod 2147483647 = a * b % 2147483647 := Int.tmod_eq_emod_of_nonneg h0
  go_enter Tryz.func155, Tryz.ntmps155
  go_wp2
  go_ret
  exact ⟨rfl, rfl⟩

theorem rminus_any (a b : Int) (w : World) (ha : 0 ≤ a) (ha' : a ≤ 2147483647) (hb : 0 ≤ b) (hb' : b ≤ 2147483647) :
    Calls Tryz.prog 158 #[.int .i64 a, .int .i64 b] w fun e w' => e = .returned (.int .i64 (mns a b)) ∧ w = w' := by
  have h0 : 0 ≤ a - b + 2147483647 := by omega
  have ht : (a - b + 2147483647).tmod 2147483647 = mns a b := Int.tmod_eq_emod_of_nonneg h0
  go_enter Tryz.func158, Tryz.ntmps158
  go_wp2
  go_ret
  exact ⟨rfl, rfl⟩

set_option maxRecDepth 100000 in
set_option maxHeartbeats 4000000 in
theorem rpower_any (a : Int) (n : Nat) (w : World) (ha : 0 ≤ a) (ha' : a < 2147483647) (hn : n ≤ 2147483647) :
    Calls Tryz.prog 156 #[.int .i64 a, .int .i64 n] w fun e w' => e = .returned (.int .i64 (ipw a n)) ∧ w = w' := by
  have HM : Hid (∀ x y : Int, 0 ≤ x → x < 2147483647 → 0 ≤ y → y < 2147483647 → Calls Tryz.prog 155 #[.int .i64 x, .int .i64 y] w fun e w' => e = .returned (.int .i64 (x * y % 2147483647)) ∧ w = w') := Lib.hid (fun x y h1 h2 h3 h4 => rmul_any x y w h1 (by omega) h3 (by omega))
  obtain ⟨P, hP⟩ : ∃ P, fpw (phi a) n = P := ⟨_, rfl⟩
  have hres : ∀ o : Int, 0 ≤ o → o < 2147483647 → phi o = P → o = ipw a n := fun o h1 h2 h3 => by
    have r := ipw_range a n
    exact phi_inj h1 h2 r.1 r.2 (by rw [phi_ipw, hP, h3])
  have HRES := Lib.hid hres
  have HP := Lib.hid hP
  have hst : phi 1 * fpw (phi a) n = P := by rw [phi_one, hP]; grind
  have HST := Lib.hid hst
  clear hres hP hst
  go_enter Tryz.func156, Tryz.ntmps156
  go_wp2_with fail
  go_loop [0, 1, 5] (fun u0 u1 u5 => ∃ (x o : Int) (k : Nat), u0 = .int .i64 x ∧ u1 = .int .i64 k ∧ u5 = .int .i64 o ∧ 0 ≤ x ∧ x < 2147483647 ∧ 0 ≤ o ∧ o < 2147483647 ∧ k ≤ 2147483647 ∧ phi o * fpw (phi x) k = P) (fun _ u1 _ => (intOf u1).toNat)
  case atStart => exact ⟨a, 1, n, rfl, rfl, rfl, ha, ha', by omega, by omega, hn, HST.out⟩
  case round =>
    obtain ⟨x, o, k, rfl, rfl, rfl, x0, x1, o0, o1, hk, hp⟩ := hrel
    have HPK := Lib.hid hp
    clear hp
    by_cases hk0 : 0 < k
    · have hki : (0 : Int) < (k : Int) := by omega
      have hdiv : (k : Int).tdiv 2 = ((k / 2 : Nat) : Int) := by rw [Int.tdiv_eq_ediv_of_nonneg (by omega)]; omega
      by_cases hodd : k % 2 = 1
      · have hrm : (k : Int).tmod 2 = 1 := by rw [Int.tmod_eq_emod_of_nonneg (by omega)]; omega
        have hnew : phi (o * x % 2147483647) * fpw (phi (x * x % 2147483647)) (k / 2) = P := by
          rw [phi_emod, phi_mul, phi_emod, phi_mul, ← pow_odd _ _ _ hodd]; exact HPK.out
        have HNEW := Lib.hid hnew
        clear hnew
        go_wp2_with fail
        refine (HM.out o x o0 o1 x0 x1).mono ?_
        rintro e _ ⟨rfl, rfl⟩
        go_wp2_with fail
        refine (HM.out x x x0 x1 x0 x1).mono ?_
        rintro e _ ⟨rfl, rfl⟩
        go_wp2
        go_round
        case rel => exact ⟨x * x % 2147483647, o * x % 2147483647, k / 2, rfl, by go_num, rfl, by omega, by omega, by omega, by omega, by omega, HNEW.out⟩
        case measure => simp [intOf]; omega
      · have hrm : (k : Int).tmod 2 = 0 := by rw [Int.tmod_eq_emod_of_nonneg (by omega)]; omega
        have hnew : phi o * fpw (phi (x * x % 2147483647)) (k / 2) = P := by
          rw [phi_emod, phi_mul, ← pow_even _ _ _ (by omega)]; exact HPK.out
        have HNEW := Lib.hid hnew
        clear hnew
        go_wp2_with fail
        refine (HM.out x x x0 x1 x0 x1).mono ?_
        rintro e _ ⟨rfl, rfl⟩
        go_wp2
        go_round
        case rel => exact ⟨x * x % 2147483647, o, k / 2, rfl, by go_num, rfl, by omega, by omega, o0, o1, by omega, HNEW.out⟩
        case measure => simp [intOf]; omega
    · obtain rfl : k = 0 := by omega
      have ho : o = ipw a n := HRES.out o o0 o1 (by have := HPK.out; simp only [fpw] at this; rw [← this]; grind)
      have HO := Lib.hid ho
      clear ho
      go_wp2
      go_ret
      exact ⟨ret_int HO.out, rfl⟩

set_option maxHeartbeats 4000000 in
theorem rall_any (A : Option Addr) (c : Nat) (l : List Int) (w : World) (h : Ints w A l) (hl : l.length ≤ 9223372036854775807) :
    Calls Tryz.prog 154 #[.slice A l.length c] w fun e w' => e = .returned (.bool (l.all elemB)) ∧ w = w' := by
  have H := Lib.hid h
  have HIS := Lib.hid (fun (x : Int) => rin_any x w)
  clear h
  go_enter Tryz.func154, Tryz.ntmps154
  go_wp2_with fail
  go_loop [3] (fun u => ∃ k : Nat, k ≤ l.length ∧ u = .int .i64 k ∧ (l.take k).all elemB = true) (fun u => l.length - (intOf u).toNat)
  case atStart => exact ⟨0, Nat.zero_le _, rfl, rfl⟩
  case round =>
    obtain ⟨k, hk, rfl, hall⟩ := hrel
    have HALL := Lib.hid hall
    clear hall
    by_cases hlt : k < l.length
    · obtain ⟨s, hs⟩ := get_some l k hlt
      obtain ⟨b, off, rfl, c0⟩ := H.out.at_ hs
      have c0l := lt_of_cell c0
      have HC := Lib.hid (HIS.out s)
      have HS := Lib.hid hs
      clear hs
      obtain ⟨v, hv⟩ : ∃ v, elemB s = v := ⟨_, rfl⟩
      rw [hv] at HC
      have HV := Lib.hid hv
      clear hv
      cases v with
      | true =>
        go_wp2_with fail
        refine HC.out.mono ?_
        rintro e _ ⟨rfl, rfl⟩
        go_wp2
        go_round
        case rel => exact ⟨k + 1, by omega, by go_num, by rw [all_take_succ _ _ _ _ HS.out, HALL.out, HV.out]; rfl⟩
        case measure => simp [intOf]; omega
      | false =>
        have HBD := Lib.hid (all_false_of elemB l k s HS.out HV.out)
        go_wp2_with fail
        refine HC.out.mono ?_
        rintro e _ ⟨rfl, rfl⟩
        go_wp2
        go_ret
        exact ⟨ret_bool HBD.out.symm, rfl⟩
    · obtain rfl : k = l.length := by omega
      rw [List.take_length] at HALL
      go_wp2
      go_ret
      exact ⟨ret_bool HALL.out.symm, rfl⟩

set_option maxRecDepth 100000 in
set_option maxHeartbeats 8000000 in
theorem reval_any (A : Option Addr) (c : Nat) (l : List Int) (x : Int) (w : World) (h : Ints w A l) (hl : l.length ≤ 16) (hall : l.all elemB = true) (hx : elemB x = true) :
    Calls Tryz.prog 133 #[.slice A l.length c, .int .i64 x] w fun e w' => e = .returned (.tuple #[.int .i64 (evp l x), .int .i64 0]) ∧ Below w.heap.size w w' := by
  have HA := Lib.hid (rall_any A c l w h (by omega))
  rw [hall] at HA
  have HIX := Lib.hid (rin_any x w)
  rw [hx] at HIX
  have H := Lib.hid h
  obtain ⟨x0, x1⟩ := (elemB_iff x).1 hx
  have HE : Hid (∀ (k : Nat) (a : Int), l[k]? = some a → 0 ≤ a ∧ a < 2147483647) := Lib.hid (fun k a hk => (elemB_iff a).1 (List.all_eq_true.1 hall a (List.mem_of_getElem? hk)))
  have HPW : Hid (∀ (k : Nat) (W : World), k ≤ 2147483647 → Calls Tryz.prog 156 #[.int .i64 x, .int .i64 k] W fun e w' => e = .returned (.int .i64 (ipw x k)) ∧ Below W.heap.size W w') := Lib.hid (fun k W hk => (rpower_any x k W x0 x1 hk).mono fun _ _ ⟨he, hw⟩ => ⟨he, hw ▸ Below.refl _ _⟩)
  have hd : decide (16 < l.length) = false := decide_eq_false (by omega)
  have hd2 : decide ((16 : Int) < (l.length : Int)) = false := decide_eq_false (by omega)
  clear h hall hx
  go_enter Tryz.func133, Tryz.ntmps133
  go_wp2_with fail
  refine HA.out.mono ?_
  rintro e _ ⟨rfl, rfl⟩
  go_wp2_with fail
  refine HIX.out.mono ?_
  rintro e _ ⟨rfl, rfl⟩
  go_wp2_with fail
  go_loopw [6, 7] (fun u6 u7 wr => ∃ k : Nat, k ≤ l.length ∧ u7 = .int .i64 k ∧ u6 = .int .i64 (evs l x k) ∧ Below w.heap.size w wr) (fun _ u7 _ => l.length - (intOf u7).toNat)
  case atStart => exact ⟨0, Nat.zero_le _, rfl, rfl, Below.refl _ _⟩
  case round =>
  obtain ⟨k, hk, rfl, rfl, hb⟩ := hrel
  have HB := Lib.hid hb
  clear hb
  by_cases hlt : k < l.length
  · obtain ⟨a, ha⟩ := get_some l k hlt
    obtain ⟨b, off, rfl, c0⟩ := (H.out.below HB.out).at_ ha
    have HCELL : Hid (∀ W, Below wr.heap.size wr W → W.cell? ⟨b, off + k, none⟩ = some (.int .i64 a)) := Lib.hid (fun W hW => kept_cell hW c0)
    obtain ⟨a0, a1⟩ := HE.out k a ha
    obtain ⟨p0, p1⟩ := ipw_range x k
    obtain ⟨s0, s1⟩ := evs_range l x k
    have hki : (k : Int) < (l.length : Int) := by omega
    have hnew : evs l x (k + 1) = (evs l x k + a * ipw x k % 2147483647) % 2147483647 := by
      rw [evs, ha]; rfl
    have HNEW := Lib.hid hnew
    have HP1 := Lib.hid (fun W (hW : Below wr.heap.size wr W) => (HPW.out k W (by omega)).mono fun _ _ ⟨he, hb⟩ => (⟨he, below_trans hW hb⟩ : _ ∧ Below wr.heap.size wr _))
    have HM1 := Lib.hid (fun W (hW : Below wr.heap.size wr W) => (rmul_any a (ipw x k) W a0 (by omega) p0 (by omega)).mono fun _ _ ⟨he, hw⟩ => (⟨he, hw ▸ hW⟩ : _ ∧ Below wr.heap.size wr _))
    have m0 : 0 ≤ a * ipw x k % 2147483647 := by omega
    have m1 : a * ipw x k % 2147483647 < 2147483647 := by omega
    clear ha c0 hnew a0 a1 p0 p1
    generalize a * ipw x k % 2147483647 = pr at *
    generalize ipw x k = pw at *
    generalize evs l x k = S at *
    have hwr : IntKind.i64.wrap (S + pr) = S + pr := by rw [IntWalk.i64_in _ (by omega)]
    have htm : (S + pr).tmod 2147483647 = (S + pr) % 2147483647 := Int.tmod_eq_emod_of_nonneg (by omega)
    go_wp2_with fail
    refine wp_region_belowC (by kernel_rfl) (by kernel_rfl) (fun WQ HQS HQN => ?_)
    refine HQS.go (fun K hK => ?_)
    go_simp
    apply Exists.intro
    refine ⟨fun W hW => ?_, hK _ ?_⟩
    · (try go_simp)
      exact rfl
    clear hK K
    refine HQS.go (fun K hK => ?_)
    go_simp
    apply Exists.intro
    refine ⟨fun W hW => ?_, hK _ ?_⟩
    · (try go_simp)
      exact rfl
    clear hK K
    refine HQS.go (fun K hK => ?_)
    go_simp
    apply Exists.intro
    refine ⟨fun W hW => ?_, hK _ ?_⟩
    · (try go_simp)
      exact rfl
    clear hK K
    refine HQS.go (fun K hK => ?_)
    go_simp
    apply Exists.intro
    refine ⟨fun W hW => ?_, hK _ ?_⟩
    · (try go_simp)
      exact rfl
    clear hK K
    refine HQS.go (fun K hK => ?_)
    go_simp
    apply Exists.intro
    refine ⟨fun W hW => ?_, hK _ ?_⟩
    · have qq := HCELL.out W hW
      have ql := lt_of_cell qq
      go_simp
      exact rfl
    clear hK K
    refine HQS.go (fun K hK => ?_)
    go_simp
    apply Exists.intro
    refine ⟨fun W hW => ?_, hK _ ?_⟩
    · (try go_simp)
      exact rfl
    clear hK K
    refine HQS.go (fun K hK => ?_)
    go_simp
    apply Exists.intro
    refine ⟨fun W hW => ?_, hK _ ?_⟩
    · (try go_simp)
      exact rfl
    clear hK K
    refine HQS.go (fun K hK => ?_)
    go_simp
    apply Exists.intro
    refine ⟨fun W hW => ?_, hK _ ?_⟩
    · exact HP1.out W hW
    clear hK K
    refine HQS.go (fun K hK => ?_)
    go_simp
    apply Exists.intro
    refine ⟨fun W hW => ?_, hK _ ?_⟩
    · exact HM1.out W hW
    clear hK K
    refine HQS.go (fun K hK => ?_)
    go_simp
    apply Exists.intro
    refine ⟨fun W hW => ?_, hK _ ?_⟩
    · (try go_simp)
      exact rfl
    clear hK K
    refine HQS.go (fun K hK => ?_)
    go_simp
    apply Exists.intro
    refine ⟨fun W hW => ?_, hK _ ?_⟩
    · (try go_simp)
      exact rfl
    clear hK K
    refine HQS.go (fun K hK => ?_)
    go_simp
    apply Exists.intro
    refine ⟨fun W hW => ?_, hK _ ?_⟩
    · (try go_simp)
      exact rfl
    clear hK K
    refine HQN.go ?_
    intro W hW
    have HB2 := Lib.hid (below_trans HB.out hW)
    clear hW
    go_wp2_with fail
    go_roundw
    case rel => exact ⟨k + 1, by omega, by go_num, by rw [HNEW.out], HB2.out⟩
    case measure => simp [intOf]; omega
  · obtain rfl : k = l.length := by omega
    have he := evs_evp l x
    have HEV := Lib.hid he
    clear he
    go_wp2
    go_ret2
    exact ⟨by (try rw [HEV.out]); rfl, HB.out⟩
end

section
open Go.RowKit

set_option maxRecDepth 100000 in
set_option maxHeartbeats 16000000 in
theorem rinterp_any (A : Option Addr) (cap : Nat) (ps : List (Int × Int)) (x : Int) (w : World) (hc : Prs w A ps) (h1 : 1 ≤ ps.length) (h16 : ps.length ≤ 16) (hx : elemB x = true) (hg : Good ps) :
    Calls Tryz.prog 136 #[.slice A ps.length cap, .int .i64 x] w fun e w' => e = .returned (.tuple #[.int .i64 (nv x ps (ps.length - 1) 0), .int .i64 0]) ∧ Below w.heap.size w w' := by
  have hres := rsm_nv ps hg x (by omega)
  rw [← hres]
  obtain ⟨x0, x1⟩ := (elemB_iff x).1 hx
  obtain ⟨b, off, rfl, -⟩ := hc.2 (by omega)
  have HIN := Lib.hid (fun (a : Int) W => rin_any a W)
  have HIX := Lib.hid (rin_any x w)
  rw [hx] at HIX
  have HC : Hid (∀ k p, ps[k]? = some p → ∀ W, Below w.heap.size w W → W.cell? ⟨b, off + k * 2, none⟩ = some (.int .i64 p.1) ∧ W.cell? ⟨b, off + k * 2 + 1, none⟩ = some (.int .i64 p.2)) := Lib.hid (fun k p hk W hW => by
    obtain ⟨b', off', e, q1, q2⟩ := hc.at_ hk
    cases e
    exact ⟨kept_cell hW q1, kept_cell hW q2⟩)
  have HE : Hid (∀ (k : Nat) (p : Int × Int), ps[k]? = some p → elemB p.1 = true ∧ elemB p.2 = true) := Lib.hid (fun k p hk => hg.elems p (List.mem_of_getElem? hk))
  have HND : Hid (∀ (k i : Nat) (p q : Int × Int), ps[k]? = some p → ps[i]? = some q → k ≠ i → p.1 ≠ q.1) := Lib.hid (fun k i p q hk hi hne h => by
    have n1 : (ps.map (·.1))[k]? = some p.1 := by rw [List.getElem?_map, hk]; rfl
    have n2 : (ps.map (·.1))[i]? = some q.1 := by rw [List.getElem?_map, hi]; rfl
    obtain ⟨l1, g1⟩ := List.getElem?_eq_some_iff.1 n1
    obtain ⟨l2, g2⟩ := List.getElem?_eq_some_iff.1 n2
    exact hne ((List.getElem_inj hg.nodup (h₀ := l1) (h₁ := l2)).1 (by rw [g1, g2, h])))
  have HPT : Hid (∀ (k : Nat) (p : Int × Int), ps[k]? = some p → ptn ps k = p) := Lib.hid (fun k p hk => by unfold ptn; rw [hk]; rfl)
  obtain ⟨n, hn⟩ : ∃ n, ps.length = n := ⟨_, rfl⟩
  have HGET : Hid (∀ k, k < n → ∃ p, ps[k]? = some p) := Lib.hid (fun k hk => get_some ps k (by omega))
  have HN := Lib.hid hn
  have HRS : Hid (∀ k, rsm ps x (k + 1) = (rsm ps x k + abv ps x k (ptn ps k).2 n * ipw (abv ps (ptn ps k).1 k 1 n) 2147483645 % 2147483647) % 2147483647) := Lib.hid (fun k => by rw [rsm, hn])
  have HAB : Hid (∀ z i y k, abv ps z i y (k + 1) = if k = i then abv ps z i y k else abv ps z i y k * mns z (ptn ps k).1 % 2147483647) := Lib.hid (fun z i y k => rfl)
  have HAR := Lib.hid (abv_range ps)
  have HRR := Lib.hid (rsm_range ps x)
  have HPW : Hid (∀ (a : Int) (W : World), 0 ≤ a → a < 2147483647 → Calls Tryz.prog 156 #[.int .i64 a, .int .i64 2147483645] W fun e w' => e = .returned (.int .i64 (ipw a 2147483645)) ∧ W = w') := Lib.hid (fun a W h0 h1 => rpower_any a 2147483645 W h0 h1 (by omega))
  rw [hn] at h1 h16 ⊢
  have hd1 : decide (n < 1) = false := decide_eq_false (by omega)
  have hd2 : decide (16 < n) = false := decide_eq_false (by omega)
  have hd3 : decide ((n : Int) < 1) = false := decide_eq_false (by omega)
  have hd4 : decide ((16 : Int) < (n : Int)) = false := decide_eq_false (by omega)
  clear hc hg hx hres hn
  go_enter Tryz.func136, Tryz.ntmps136
  go_wp2_with fail
  refine HIX.out.mono ?_
  rintro e _ ⟨rfl, rfl⟩
  go_wp2_with fail
  go_loop [6] (fun u => ∃ k : Nat, k ≤ n ∧ u = .int .i64 k) (fun u => n - (intOf u).toNat)
  case atStart => exact ⟨0, Nat.zero_le _, rfl⟩
  case round =>
  obtain ⟨k, hk, rfl⟩ := hrel
  by_cases hlt : k < n
  case pos =>
    obtain ⟨p, hp⟩ := HGET.out k hlt
    obtain ⟨q1, q2⟩ := HC.out k p hp w (Below.refl _ _)
    obtain ⟨e1, e2⟩ := HE.out k p hp
    have ql := lt_of_cell q1
    have HI1 := Lib.hid (HIN.out p.1 w)
    have HI2 := Lib.hid (HIN.out p.2 w)
    rw [e1] at HI1
    rw [e2] at HI2
    have hki : (k : Int) < (n : Int) := by omega
    clear hp e1 e2
    go_wp2_with fail
    refine HI1.out.mono ?_
    rintro e _ ⟨rfl, rfl⟩
    go_wp2_with fail
    refine HI2.out.mono ?_
    rintro e _ ⟨rfl, rfl⟩
    go_wp2
    go_round
    case rel => exact ⟨k + 1, by omega, by go_num⟩
    case measure => simp [intOf]; omega
  case neg =>
  obtain rfl : k = n := by omega
  go_wp2_with fail
  go_loopw [7, 8, 9, 10, 11] (fun u7 u8 _ _ _ wr => ∃ i : Nat, i ≤ k ∧ u8 = .int .i64 i ∧ u7 = .int .i64 (rsm ps x i) ∧ Below w.heap.size w wr) (fun _ u8 _ _ _ _ => k - (intOf u8).toNat)
  case atStart => exact ⟨0, Nat.zero_le _, rfl, rfl, Below.refl _ _⟩
  case round =>
  obtain ⟨i, hi, rfl, rfl, hb⟩ := hrel
  have HB := Lib.hid hb
  clear hb
  by_cases hil : i < k
  case neg =>
    obtain rfl : i = k := by omega
    go_wp2
    go_ret2
    exact ⟨rfl, HB.out⟩
  case pos =>
  obtain ⟨p, hp⟩ := HGET.out i hil
  have HPI := Lib.hid hp
  have hptn := HPT.out i p hp
  obtain ⟨e1, e2⟩ := HE.out i p hp
  obtain ⟨a0, a1⟩ := (elemB_iff _).1 e1
  obtain ⟨c0, c1⟩ := (elemB_iff _).1 e2
  obtain ⟨q1, q2⟩ := HC.out i p hp wr HB.out
  have ql := lt_of_cell q1
  have hki : (i : Int) < (k : Int) := by omega
  have hrs := HRS.out i
  rw [hptn] at hrs
  have HRS1 := Lib.hid hrs
  clear hp hptn e1 e2 hrs
  generalize wr = wi at *
  go_wp2_with fail
  clear q1 q2 ql
  go_loopw [9, 10, 11] (fun u9 u10 u11 W => ∃ j : Nat, j ≤ k ∧ u11 = .int .i64 j ∧ u9 = .int .i64 (abv ps x i p.2 j) ∧ u10 = .int .i64 (abv ps p.1 i 1 j) ∧ Below w.heap.size w W) (fun _ _ u11 _ => k - (intOf u11).toNat)
  case atStart => exact ⟨0, Nat.zero_le _, rfl, rfl, rfl, HB.out⟩
  case round =>
  obtain ⟨j, hj, rfl, rfl, rfl, hb⟩ := hrel
  have HBJ := Lib.hid hb
  clear hb
  by_cases hjl : j < k
  case neg =>
    obtain rfl : j = k := by omega
    obtain ⟨m0, m1⟩ := HAR.out x i p.2 c0 c1 j
    obtain ⟨n0, n1⟩ := HAR.out p.1 i 1 (by omega) (by omega) j
    obtain ⟨s0, s1⟩ := HRR.out i
    have HNEW := Lib.hid HRS1.out
    generalize hU : abv ps x i p.2 j = U at *
    generalize hV : abv ps p.1 i 1 j = V at *
    have HP1 := Lib.hid (HPW.out V wr n0 n1)
    obtain ⟨p0, p1⟩ := ipw_range V 2147483645
    have HM1 := Lib.hid (rmul_any U (ipw V 2147483645) wr m0 (by omega) p0 (by omega))
    have r0 : 0 ≤ U * ipw V 2147483645 % 2147483647 := by omega
    have r1 : U * ipw V 2147483645 % 2147483647 < 2147483647 := by omega
    generalize U * ipw V 2147483645 % 2147483647 = pr at *
    generalize ipw V 2147483645 = pw at *
    generalize hS : rsm ps x i = S at *
    have hwr : IntKind.i64.wrap (S + pr) = S + pr := by rw [IntWalk.i64_in _ (by omega)]
    have htm : (S + pr).tmod 2147483647 = (S + pr) % 2147483647 := Int.tmod_eq_emod_of_nonneg (by omega)
    clear hU hV m0 m1 n0 n1 p0 p1
    go_wp2_with fail
    refine HP1.out.mono ?_
    rintro e _ ⟨rfl, rfl⟩
    go_wp2_with fail
    refine HM1.out.mono ?_
    rintro e _ ⟨rfl, rfl⟩
    go_wp2_with fail
    go_roundw
    case rel => exact ⟨i + 1, by omega, by go_num, by rw [HNEW.out], HBJ.out⟩
    case measure => simp [intOf]; omega
  case pos =>
  have hji : (j : Int) < (k : Int) := by omega
  by_cases hij : j = i
  case pos =>
    have hn1 := HAB.out x i p.2 j
    have hn2 := HAB.out p.1 i 1 j
    rw [if_pos hij] at hn1 hn2
    have HN1 := Lib.hid hn1
    have HN2 := Lib.hid hn2
    have he : ((j : Int) == (i : Int)) = true := by simp; omega
    clear hn1 hn2 hij
    go_wp2_with fail
    go_roundw
    case rel => exact ⟨j + 1, by omega, by go_num, by rw [HN1.out], by rw [HN2.out], HBJ.out⟩
    case measure => simp [intOf]; omega
  case neg =>
  obtain ⟨q, hq⟩ := HGET.out j hjl
  have hne := HND.out j i q p hq HPI.out hij
  obtain ⟨e1, e2⟩ := HE.out j q hq
  obtain ⟨d0, d1⟩ := (elemB_iff _).1 e1
  have hn1 := HAB.out x i p.2 j
  have hn2 := HAB.out p.1 i 1 j
  rw [if_neg hij, HPT.out j q hq] at hn1 hn2
  have HN1 := Lib.hid hn1
  have HN2 := Lib.hid hn2
  have hnij : ((j : Int) == (i : Int)) = false := by simp; omega
  have hqp : (q.1 == p.1) = false := by simpa using hne
  have HQJ := Lib.hid (HC.out j q hq)
  have HQI := Lib.hid (HC.out i p HPI.out)
  obtain ⟨m0, m1⟩ := HAR.out x i p.2 c0 c1 j
  obtain ⟨n0, n1⟩ := HAR.out p.1 i 1 (by omega) (by omega) j
  generalize abv ps x i p.2 j = U at *
  generalize abv ps p.1 i 1 j = V at *
  obtain ⟨g0, g1⟩ := mns_range x q.1
  obtain ⟨h0, h2⟩ := mns_range p.1 q.1
  have HMI := Lib.hid (fun W => rminus_any x q.1 W x0 (by omega) d0 (by omega))
  have HMU := Lib.hid (fun W => rmul_any U (mns x q.1) W m0 (by omega) g0 (by omega))
  have HMI2 := Lib.hid (fun W => rminus_any p.1 q.1 W a0 (by omega) d0 (by omega))
  have HMU2 := Lib.hid (fun W => rmul_any V (mns p.1 q.1) W n0 (by omega) h0 (by omega))
  generalize wr = wj at *
  clear hn1 hn2 hq hne e1 e2 hij m0 m1 n0 n1 g0 g1 h0 h2
  generalize U * mns x q.1 % 2147483647 = U2 at *
  generalize V * mns p.1 q.1 % 2147483647 = V2 at *
  generalize mns x q.1 = m1 at *
  generalize mns p.1 q.1 = m2 at *
  go_wp2_with fail
  refine wp_region_belowC (by kernel_rfl) (by kernel_rfl) (fun WQ HQS HQN => ?_)
  refine HQS.go (fun K hK => ?_)
  go_simp
  apply Exists.intro
  refine ⟨fun W hW => ?_, hK _ ?_⟩
  · (try go_simp)
    exact rfl
  clear hK K
  refine HQS.go (fun K hK => ?_)
  go_simp
  apply Exists.intro
  refine ⟨fun W hW => ?_, hK _ ?_⟩
  · (try go_simp)
    exact rfl
  clear hK K
  refine HQS.go (fun K hK => ?_)
  go_simp
  apply Exists.intro
  refine ⟨fun W hW => ?_, hK _ ?_⟩
  · (try go_simp)
    exact rfl
  clear hK K
  refine HQS.go (fun K hK => ?_)
  go_simp
  apply Exists.intro
  refine ⟨fun W hW => ?_, hK _ ?_⟩
  · (try go_simp)
    exact rfl
  clear hK K
  refine HQS.go (fun K hK => ?_)
  go_simp
  apply Exists.intro
  refine ⟨fun W hW => ?_, hK _ ?_⟩
  · obtain ⟨q1, q2⟩ := HQJ.out W (below_trans HBJ.out hW)
    have ql := lt_of_cell q1
    go_simp
    exact rfl
  clear hK K
  refine HQS.go (fun K hK => ?_)
  go_simp
  apply Exists.intro
  refine ⟨fun W hW => ?_, hK _ ?_⟩
  · (try go_simp)
    exact rfl
  clear hK K
  refine HQS.go (fun K hK => ?_)
  go_simp
  apply Exists.intro
  refine ⟨fun W hW => ?_, hK _ ?_⟩
  · (try go_simp)
    exact rfl
  clear hK K
  refine HQS.go (fun K hK => ?_)
  go_simp
  apply Exists.intro
  refine ⟨fun W hW => ?_, hK _ ?_⟩
  · (try go_simp)
    exact rfl
  clear hK K
  refine HQS.go (fun K hK => ?_)
  go_simp
  apply Exists.intro
  refine ⟨fun W hW => ?_, hK _ ?_⟩
  · (try go_simp)
    exact rfl
  clear hK K
  refine HQS.go (fun K hK => ?_)
  go_simp
  apply Exists.intro
  refine ⟨fun W hW => ?_, hK _ ?_⟩
  · obtain ⟨q1, q2⟩ := HQI.out W (below_trans HBJ.out hW)
    have ql := lt_of_cell q1
    go_simp
    exact rfl
  clear hK K
  refine HQS.go (fun K hK => ?_)
  go_simp
  apply Exists.intro
  refine ⟨fun W hW => ?_, hK _ ?_⟩
  · (try go_simp)
    exact rfl
  clear hK K
  refine HQN.go ?_
  intro w7 hW
  have HB7 := Lib.hid (below_trans HBJ.out hW)
  clear hW
  obtain ⟨q1, q2⟩ := HQJ.out w7 HB7.out
  have ql := lt_of_cell q1
  go_wp2_with fail
  refine (HMI.out w7).mono ?_
  rintro e _ ⟨rfl, rfl⟩
  go_wp2_with fail
  refine (HMU.out w7).mono ?_
  rintro e _ ⟨rfl, rfl⟩
  clear q1 q2 ql
  go_wp2_with fail
  refine wp_region_belowC (by kernel_rfl) (by kernel_rfl) (fun WQ HQS HQN => ?_)
  refine HQS.go (fun K hK => ?_)
  go_simp
  apply Exists.intro
  refine ⟨fun W hW => ?_, hK _ ?_⟩
  · (try go_simp)
    exact rfl
  clear hK K
  refine HQS.go (fun K hK => ?_)
  go_simp
  apply Exists.intro
  refine ⟨fun W hW => ?_, hK _ ?_⟩
  · (try go_simp)
    exact rfl
  clear hK K
  refine HQS.go (fun K hK => ?_)
  go_simp
  apply Exists.intro
  refine ⟨fun W hW => ?_, hK _ ?_⟩
  · (try go_simp)
    exact rfl
  clear hK K
  refine HQS.go (fun K hK => ?_)
  go_simp
  apply Exists.intro
  refine ⟨fun W hW => ?_, hK _ ?_⟩
  · (try go_simp)
    exact rfl
  clear hK K
  refine HQS.go (fun K hK => ?_)
  go_simp
  apply Exists.intro
  refine ⟨fun W hW => ?_, hK _ ?_⟩
  · (try go_simp)
    exact rfl
  clear hK K
  refine HQS.go (fun K hK => ?_)
  go_simp
  apply Exists.intro
  refine ⟨fun W hW => ?_, hK _ ?_⟩
  · obtain ⟨q1, q2⟩ := HQI.out W (below_trans HB7.out hW)
    have ql := lt_of_cell q1
    go_simp
    exact rfl
  clear hK K
  refine HQS.go (fun K hK => ?_)
  go_simp
  apply Exists.intro
  refine ⟨fun W hW => ?_, hK _ ?_⟩
  · (try go_simp)
    exact rfl
  clear hK K
  refine HQS.go (fun K hK => ?_)
  go_simp
  apply Exists.intro
  refine ⟨fun W hW => ?_, hK _ ?_⟩
  · (try go_simp)
    exact rfl
  clear hK K
  refine HQS.go (fun K hK => ?_)
  go_simp
  apply Exists.intro
  refine ⟨fun W hW => ?_, hK _ ?_⟩
  · (try go_simp)
    exact rfl
  clear hK K
  refine HQS.go (fun K hK => ?_)
  go_simp
  apply Exists.intro
  refine ⟨fun W hW => ?_, hK _ ?_⟩
  · (try go_simp)
    exact rfl
  clear hK K
  refine HQS.go (fun K hK => ?_)
  go_simp
  apply Exists.intro
  refine ⟨fun W hW => ?_, hK _ ?_⟩
  · obtain ⟨q1, q2⟩ := HQJ.out W (below_trans HB7.out hW)
    have ql := lt_of_cell q1
    go_simp
    exact rfl
  clear hK K
  refine HQS.go (fun K hK => ?_)
  go_simp
  apply Exists.intro
  refine ⟨fun W hW => ?_, hK _ ?_⟩
  · exact (HMI2.out W).mono fun _ _ ⟨he, hw⟩ => ⟨he, hw ▸ hW⟩
  clear hK K
  refine HQS.go (fun K hK => ?_)
  go_simp
  apply Exists.intro
  refine ⟨fun W hW => ?_, hK _ ?_⟩
  · exact (HMU2.out W).mono fun _ _ ⟨he, hw⟩ => ⟨he, hw ▸ hW⟩
  clear hK K
  refine HQS.go (fun K hK => ?_)
  go_simp
  apply Exists.intro
  refine ⟨fun W hW => ?_, hK _ ?_⟩
  · (try go_simp)
    exact rfl
  clear hK K
  refine HQN.go ?_
  intro w8 hW
  have HB8 := Lib.hid (below_trans HB7.out hW)
  clear hW
  go_wp2_with fail
  go_roundw
  case rel => exact ⟨j + 1, by omega, by go_num, by rw [HN1.out], by rw [HN2.out], HB8.out⟩
  case measure => simp [intOf]; omega

  
end

section
open Go.RowKit

theorem step_app {P : Program} (w : World) {ops : Array Oper} {o : Oper} {a : Act} {K : Act → World → Prop} {Q : Exit → Act → World → Prop} {E : Prop} (hw : Region.wanted o (yielded ops a.tmps) = true) (s x : Operand) (t t2 : TypeId)
    (ho : o.op = .call { callee := .builtin .append, args := #[s, x], argTypes := #[t, t2] })
    (base : Nat) (e e2 : TypeId) (i : TypeInfo) (z : Value) (size bytes : Nat) (ht : P.underlying t = some (.slice e)) (ht2 : P.underlying t2 = some (.slice e2)) (hi : P.info? e = some i) (hz : i.zero = some z)
    (hsize : i.size = size) (hby : i.bytes = bytes) (hzs : z.cells.size = size) (hsz : 0 < size)
    (v : Value) (n : Nat) (xs : List Value) (hs : a.eval s = v) (hown : w.ownsRow base e size v n xs)
    (A : Option Addr) (m c : Nat) (news : List Value) (hx : a.eval x = .slice A m c) (hr : Rd w size A m news) (h1 : ∀ u ∈ news, u.oneCell' = true)
    (h63 : n + m ≤ maxLen) (hbytes : (n + m) * bytes ≤ 140737488355328) (hbase : base ≤ w.heap.size)
    (h : ∀ v' w', w'.ownsRow base e size v' (n + m) (xs ++ news) → w.grownBy w' v.ownBlock → K (a.put o.dst v') w') :
    if Region.wanted o (yielded ops a.tmps) = true then Oper.wp P o a w K Q else E := by
  rw [if_pos hw]
  obtain ⟨v', w', hrun, h2, h3⟩ := run_app (P := P) w base t t2 o.type e e2 i z size bytes ht ht2 hi hz hsize hby hzs hsz v n xs hown A m c news hr h1 h63 hbytes hbase
  unfold Oper.wp execOp
  simp only [ho, resolve, invoke, builtin, Sem.run_bind, Sem.run_pure, Result.andThen_ok, List.map_toArray, List.map_cons, List.map_nil, hs, hx, hrun]
  exact h v' w' h2 h3


theorem AllReady.consS {P : Program} {ops : Array Oper} {Q : Exit → Act → World → Prop} {md : Region.Mode} {fuel : Nat} {listed : Array Bool} {a : Act} {w : World} {i : Nat} {o : Oper} {rs : List Nat} (ho : ops[i]? = some o)
    (h : ∀ K' : Act → World → Prop, Shut (∀ a w, wpAny P md ops Q fuel (listed.setIfInBounds i true) a w → K' a w) → if Region.wanted o (yielded ops a.tmps) = true then Oper.wp P o a w K' Q else K' (a.put o.dst undef) w)
    (hs : AllReady P md ops Q fuel listed a w rs) : AllReady P md ops Q fuel listed a w (i :: rs) := AllReady.cons ho (fun K' hK => h K' hK) hs
end

section
open Go.RowKit

theorem nd_snoc (l : List (Int × Int)) (i : Nat) (s : Int × Int) (hs : l[i]? = some s) (hnd : ((l.take i).map (·.1)).Nodup) (hne : ∀ (j : Nat) (t : Int × Int), j < i → l[j]? = some t → t.1 ≠ s.1) : ((l.take (i + 1)).map (·.1)).Nodup := by
  rw [take_snoc l i s hs, List.map_append, List.nodup_append]
  refine ⟨hnd, by simp, ?_⟩
  intro a ha b hb e
  simp only [List.map_cons, List.map_nil, List.mem_singleton] at hb
  obtain ⟨t, ht, rfl⟩ := List.mem_map.1 ha
  obtain ⟨j, hj⟩ := List.getElem?_of_mem ht
  rw [List.getElem?_take] at hj
  split at hj
  · next h => exact hne j t h hj (by rw [e, hb])
  · cases hj
theorem nd_not (l : List (Int × Int)) (i j : Nat) (s t : Int × Int) (hj : j < i) (hs : l[i]? = some s) (ht : l[j]? = some t) (he : t.1 = s.1) : ¬ (l.map (·.1)).Nodup := by
  intro hnd
  exact nodup_ne hnd j i t.1 s.1 (by rw [List.getElem?_map, ht]; rfl) (by rw [List.getElem?_map, hs]; rfl) hj he

set_option maxRecDepth 100000 in
set_option maxHeartbeats 32000000 in
theorem rjoin_all (A : Option Addr) (c : Nat) (l : List (Int × Int)) (need : Int) (w : World) (hA : Prs w A l) (hlen : l.length ≤ 1000000) :
    Calls Tryz.prog 104 #[.slice A l.length c, .int .i64 need] w fun e w' =>
      e = .returned (.tuple #[.int .i64 (joinF l need).1, .int .i64 (joinF l need).2]) ∧ Below w.heap.size w w' := by
  by_cases hneed : need < 1 ∨ 16 < need
  · have hJ := Lib.hid (joinF_need l need hneed)
    rcases hneed with hneed | hneed
    · go_enter Tryz.func104, Tryz.ntmps104
      go_wp2
      go_ret2
      rw [hJ.out]
      exact ⟨rfl, Below.refl _ _⟩
    · go_enter Tryz.func104, Tryz.ntmps104
      go_wp2
      go_ret2
      rw [hJ.out]
      exact ⟨rfl, Below.refl _ _⟩
  have hn1 : 1 ≤ need := by omega
  have hn16 : need ≤ 16 := by omega
  clear hneed
  obtain ⟨n, rfl⟩ := Int.eq_ofNat_of_zero_le (show 0 ≤ need by omega)
  have HA := Lib.hid hA; clear hA
  obtain ⟨i2, hi2, hy0, hy1, hy2⟩ := info_parts info_point
  have HI2 := Lib.hid (And.intro hi2 (And.intro hy0 (And.intro hy1 hy2)))
  clear hi2 hy0 hy1 hy2
  go_enter Tryz.func104, Tryz.ntmps104
  go_wp2_with fail
  go_loopw [6] (fun u6 wr => ∃ k : Nat, k ≤ l.length ∧ u6 = .int .i64 k ∧ (l.take k).all validB = true ∧ Below w.heap.size w wr) (fun u6 _ => l.length - (intOf u6).toNat)
  case atStart => exact ⟨0, Nat.zero_le _, rfl, rfl, Below.refl _ _⟩
  case round =>
  obtain ⟨k, hk, rfl, hall, hbw⟩ := hrel
  have HALL := Lib.hid hall
  have HBW := Lib.hid hbw
  clear hall hbw
  by_cases hlt : k < l.length
  case pos =>
    obtain ⟨s, hs⟩ := get_some l k hlt
    obtain ⟨b, off, rfl, hc1, hc2⟩ := (HA.out.below HBW.out).at_ hs
    have hcl := lt_of_cell hc1
    have HS := Lib.hid hs
    clear hs
    cases hvs : validB s
    case false =>
      have HVS := Lib.hid hvs
      have HJ := Lib.hid (joinF_bad l n hn1 hn16 (all_false_of validB l k s HS.out hvs))
      clear hvs
      go_wp2_with fail
      refine (rvalid_any s.1 s.2 _).mono ?_
      rintro e w' ⟨rfl, rfl⟩
      rw [HVS.out]
      go_wp2
      go_ret2
      rw [HJ.out]
      exact ⟨rfl, below_alloc HBW.out _⟩
    case true =>
      have HVS := Lib.hid hvs
      clear hvs
      go_wp2_with fail
      refine (rvalid_any s.1 s.2 _).mono ?_
      rintro e w' ⟨rfl, rfl⟩
      rw [HVS.out]
      go_wp2
      go_roundw
      case rel => exact ⟨k + 1, by omega, by go_num, by rw [all_take_succ _ _ _ _ HS.out, HALL.out, HVS.out]; rfl, below_alloc HBW.out _⟩
      case measure => simp [intOf]; omega
  case neg =>
  obtain rfl : k = l.length := by omega
  rw [List.take_length] at HALL
  have HVA := HALL
  have HB1 := HBW
  have HO0 : Hid (wr.ownsRow wr.heap.size 164 2 (.slice none 0 0) 0 []) := ⟨rfl, .inl ⟨rfl, rfl⟩⟩
  clear HALL HBW
  go_wp2_with fail
  obtain ⟨w1, rfl⟩ : ∃ w1 : World, w1 = wr := ⟨_, rfl⟩
  go_loopw [7, 8, 9] (fun u7 u8 _ wr => ∃ i q : Nat, i ≤ l.length ∧ q = min i n ∧ u8 = .int .i64 i ∧ Below w1.heap.size w1 wr ∧ ((l.take i).map (·.1)).Nodup ∧ wr.ownsRow w1.heap.size 164 2 u7 q (flat2 (l.take q))) (fun _ u8 _ _ => l.length - (intOf u8).toNat)
  case atStart => exact ⟨0, 0, Nat.zero_le _, by omega, rfl, Below.refl _ _, by simp, HO0.out⟩
  case round =>
  obtain ⟨i, q, hi, hq, rfl, hb, hnd, ho⟩ := hrel
  have HB := Lib.hid hb
  have HND := Lib.hid hnd
  have HO := Lib.hid ho
  have HQ := Lib.hid hq
  clear hb hnd ho hq
  by_cases hil : i < l.length
  case pos =>
    obtain ⟨s, hs⟩ := get_some l i hil
    have HS := Lib.hid hs
    clear hs
    go_wp2_with fail
    obtain ⟨wi, rfl⟩ : ∃ wi : World, wi = wr := ⟨_, rfl⟩
    go_loopw [9] (fun u9 W => ∃ j : Nat, j ≤ i ∧ u9 = .int .i64 j ∧ Below wi.heap.size wi W ∧ (∀ (j' : Nat) (t : Int × Int), j' < j → l[j']? = some t → t.1 ≠ s.1)) (fun u9 _ => i - (intOf u9).toNat)
    case atStart => exact ⟨0, Nat.zero_le _, rfl, Below.refl _ _, fun j' t h => absurd h (by omega)⟩
    case round =>
    obtain ⟨j, hj, rfl, hbj, hne⟩ := hrel
    have HBJ := Lib.hid hbj
    have HNE := Lib.hid hne
    clear hbj hne
    have HPW := Lib.hid (((HA.out.below HB1.out).below HB.out).below HBJ.out)
    by_cases hji : j < i
    case pos =>
      obtain ⟨t, ht⟩ := get_some l j (by omega)
      obtain ⟨b, off, rfl, hc1, hc2⟩ := HPW.out.at_ ht
      obtain ⟨b', off', he, hd1, hd2⟩ := HPW.out.at_ HS.out
      cases he
      have hcl := lt_of_cell hc1
      have HTJ := Lib.hid ht
      clear ht hc2 hd2
      by_cases hts : t.1 = s.1
      case pos =>
        have e1 : (t.1 == s.1) = true := by simp [hts]
        have HJ := Lib.hid (joinF_dup l n hn1 hn16 HVA.out (nd_not l i j s t hji HS.out HTJ.out hts))
        clear hts
        go_wp2_with fail
        go_quiet (fail)
        go_wp2
        go_ret2
        rw [HJ.out]
        exact ⟨rfl, below_drewN (below_trans HB1.out (below_trans HB.out HBJ.out)) _⟩
      case neg =>
        have e1 : (t.1 == s.1) = false := by simp [hts]
        have HTS : Hid (t.1 ≠ s.1) := Lib.hid hts
        clear hts
        go_wp2_with fail
        go_quiet (fail)
        go_wp2
        go_roundw
        case rel =>
          refine ⟨j + 1, by omega, by go_num, below_drewN HBJ.out _, fun j' t' hj' ht' => ?_⟩
          by_cases hjj : j' = j
          · rw [hjj, HTJ.out] at ht'
            cases ht'
            exact HTS.out
          · exact HNE.out j' t' (by omega) ht'
        case measure => simp [intOf]; omega
    case neg =>
    obtain rfl : j = i := by omega
    have HND2 := Lib.hid (nd_snoc l j s HS.out HND.out HNE.out)
    have HOJ := Lib.hid (row_below HO.out HBJ.out)
    have HBI := Lib.hid (below_trans HB.out HBJ.out)
    clear HND HNE HO HB HBJ
    by_cases hin : j < n
    case pos =>
      obtain rfl : j = q := by have := HQ.out; omega
      clear HQ
      obtain ⟨b, off, rfl, hd1, hd2⟩ := (HA.out.below HB1.out).at_ HS.out
      have HC1 := Lib.hid hd1
      have HC2 := Lib.hid hd2
      clear hd1 hd2
      go_wp2_with fail
      refine wp_region_held_drew (S := fun W => Below w1.heap.size w1 W) (by kernel_rfl) (HBI.out.drew) (fun hS0 => ?_)
      refine wpAnyH_take (i := 0) (v := ?_) rfl (by kernel_rfl) (by kernel_rfl) (by kernel_rfl) (fun _ _ _ h => h) (Or.inl ⟨by kernel_rfl, ?hy⟩) hS0 ?rest
      case hy => (intro W hSw; clear hSw; go_simp; try with_reducible rfl)
      case rest =>
      refine wpAnyH_take (i := 1) (v := ?_) rfl (by kernel_rfl) (by kernel_rfl) (by kernel_rfl) (fun _ _ _ h => h) (Or.inl ⟨by kernel_rfl, ?hy⟩) hS0 ?rest
      case hy => (intro W hSw; clear hSw; go_simp; try with_reducible rfl)
      case rest =>
      refine wpAnyH_take (i := 2) (v := ?_) rfl (by kernel_rfl) (by kernel_rfl) (by kernel_rfl) (fun _ _ _ h => h) (Or.inl ⟨by kernel_rfl, ?hy⟩) hS0 ?rest
      case hy => (intro W hSw; clear hSw; go_simp; try with_reducible rfl)
      case rest =>
      refine wpAnyH_take (i := 3) (v := ?_) rfl (by kernel_rfl) (by kernel_rfl) (by kernel_rfl) (fun _ _ _ h => h) (Or.inl ⟨by kernel_rfl, ?hy⟩) hS0 ?rest
      case hy => (intro W hSw; clear hSw; go_simp; try with_reducible rfl)
      case rest =>
      refine wpAnyH_take (i := 4) (v := ?_) rfl (by kernel_rfl) (by kernel_rfl) (by kernel_rfl) (fun _ _ _ h => h) (Or.inl ⟨by kernel_rfl, ?hy⟩) hS0 ?rest
      case hy => (intro W hSw; clear hSw; go_simp; try with_reducible rfl)
      case rest =>
      refine wpAnyH_take (i := 5) (v := ?_) rfl (by kernel_rfl) (by kernel_rfl) (by kernel_rfl) (fun _ _ _ h => h) (Or.inl ⟨by kernel_rfl, ?hy⟩) hS0 ?rest
      case hy => (intro W hSw; have q := kept_cell hSw HC1.out; have ql := lt_of_cell q; clear hSw; go_simp; try with_reducible rfl)
      case rest =>
      refine wpAnyH_take (i := 6) (v := ?_) rfl (by kernel_rfl) (by kernel_rfl) (by kernel_rfl) (fun _ _ _ h => h) (Or.inl ⟨by kernel_rfl, ?hy⟩) hS0 ?rest
      case hy => (intro W hSw; clear hSw; go_simp; try with_reducible rfl)
      case rest =>
      refine wpAnyH_take (i := 7) (v := ?_) rfl (by kernel_rfl) (by kernel_rfl) (by kernel_rfl) (fun _ _ _ h => h) (Or.inl ⟨by kernel_rfl, ?hy⟩) hS0 ?rest
      case hy => (intro W hSw; clear hSw; go_simp; try with_reducible rfl)
      case rest =>
      refine wpAnyH_take (i := 8) (v := ?_) rfl (by kernel_rfl) (by kernel_rfl) (by kernel_rfl) (fun _ _ _ h => h) (Or.inl ⟨by kernel_rfl, ?hy⟩) hS0 ?rest
      case hy => (intro W hSw; clear hSw; go_simp; try with_reducible rfl)
      case rest =>
      refine wpAnyH_take (i := 9) (v := ?_) rfl (by kernel_rfl) (by kernel_rfl) (by kernel_rfl) (fun _ _ _ h => h) (Or.inl ⟨by kernel_rfl, ?hy⟩) hS0 ?rest
      case hy => (intro W hSw; clear hSw; go_simp; try with_reducible rfl)
      case rest =>
      refine wpAnyH_take (i := 10) (v := ?_) rfl (by kernel_rfl) (by kernel_rfl) (by kernel_rfl) (fun _ _ _ h => h) (Or.inl ⟨by kernel_rfl, ?hy⟩) hS0 ?rest
      case hy => (intro W hSw; have q := kept_cell hSw HC2.out; have ql := lt_of_cell q; clear hSw; go_simp; try with_reducible rfl)
      case rest =>
      refine wpAnyH_take (i := 11) (v := ?_) rfl (by kernel_rfl) (by kernel_rfl) (by kernel_rfl) (fun _ _ _ h => h) (Or.inl ⟨by kernel_rfl, ?hy⟩) hS0 ?rest
      case hy => (intro W hSw; clear hSw; go_simp; try with_reducible rfl)
      case rest =>
      refine wpAnyH_ready (rs := [12]) (by kernel_rfl) (by simp) ?_
      refine AllReadyH.cons rfl (fun K hK => ?_) (AllReadyH.nil)
      go_simp
      refine hK.out _ _ (below_alloc hS0 _) (fun hS1 => ?_)
      clear hK K
      have HO3 : Hid ((wr.drew.alloc (.cells #[.int .i64 s.1, .int .i64 s.2] 164)).ownsRow w1.heap.size 164 2 u7 j (flat2 (l.take j))) := Lib.hid (row_below (row_below HOJ.out (Below.drew (Below.refl _ _))) (below_alloc (Below.refl _ _) _))
      refine wpAnyH_ready (rs := [13]) (by kernel_rfl) (by simp) ?_
      refine AllReadyH.cons rfl (fun K hK => ?_) (AllReadyH.nil)
      refine step_app (wr.drew.alloc (.cells #[.int .i64 s.1, .int .i64 s.2] 164)) (by kernel_rfl) (.tmp 58) (.tmp 70) 162 162 rfl w1.heap.size 164 164 i2 _ 2 16 Tryz.underlying162 Tryz.underlying162 HI2.out.1 HI2.out.2.1 HI2.out.2.2.1 HI2.out.2.2.2 rfl (by omega) u7 j _ (by kernel_rfl) HO3.out (some ⟨wr.heap.size, 0, none⟩) 1 1 [.int .i64 s.1, .int .i64 s.2] (by kernel_rfl) (Rd_new wr.drew #[.int .i64 s.1, .int .i64 s.2] _ 2 1 _ rfl rfl) (by simp [Value.oneCell']) (by simp only [maxLen]; omega) (by omega) (by have := HBI.out.size; simp; omega) ?_
      intro v4 w4 hown4 hg4
      have HB4 : Hid (Below w1.heap.size w1 w4) := Lib.hid ((below_alloc (HBI.out.drew) _).grown hg4 (by have := HBI.out.size; simp; omega) (fun j hj => (HO3.out.lt j hj).1))
      have HO4 := Lib.hid hown4
      clear hown4 hg4
      refine hK.out _ _ HB4.out (fun hS2 => ?_)
      clear hK K
      refine wpAnyH_take (i := 14) (v := ?_) rfl (by kernel_rfl) (by kernel_rfl) (by kernel_rfl) (fun _ _ _ h => h) (Or.inl ⟨by kernel_rfl, ?hy⟩) hS2 ?rest
      case hy => (intro W hSw; clear hSw; go_simp; try with_reducible rfl)
      case rest =>
      refine wpAnyH_done (by kernel_rfl) ?_ _
      clear hS0 hS1 hS2
      go_wp2
      go_roundw
      case rel => exact ⟨j + 1, j + 1, by omega, by omega, by go_num, HB4.out, HND2.out, by rw [take_snoc _ _ _ HS.out, flat2_append]; exact HO4.out⟩
      case measure => simp [intOf]; omega
    case neg =>
      obtain rfl : q = n := by have := HQ.out; omega
      go_wp2
      go_roundw
      case rel => exact ⟨j + 1, q, by omega, by omega, by go_num, HBI.out, HND2.out, HOJ.out⟩
      case measure => simp [intOf]; omega
  case neg =>
  obtain rfl : i = l.length := by omega
  rw [List.take_length] at HND
  by_cases hfew : l.length < n
  case pos =>
    have HJ := Lib.hid (joinF_few l n hn1 hn16 HVA.out HND.out (by omega))
    go_wp2
    go_ret2
    rw [HJ.out]
    exact ⟨rfl, below_trans HB1.out HB.out⟩
  case neg =>
  have hnl : n ≤ l.length := by omega
  obtain rfl : q = n := by have := HQ.out; omega
  clear HQ
  obtain ⟨A3, c3, rfl, hc3, hm3, hrd3⟩ := Rd.of_own HO.out
  have eql : (l.take q).length = q := List.length_take_of_le hnl
  have hP3 : Prs wr A3 (l.take q) := by
    unfold Prs; rw [eql]; exact hrd3
  have hgood : Good (l.take q) := (good_of l HVA.out HND.out).take q
  have hcall : ∀ (x : Int), elemB x = true → ∀ W, Below wr.heap.size wr W → Calls Tryz.prog 136 #[.slice A3 q c3, .int .i64 x] W fun e w' =>
      e = .returned (.tuple #[.int .i64 (nv x (l.take q) (q - 1) 0), .int .i64 0]) ∧ Below W.heap.size W w' := by
    intro x hx W hW
    have h := rinterp_any A3 c3 (l.take q) x W (hP3.below hW) (by rw [eql]; omega) (by rw [eql]; omega) hx hgood
    rw [eql] at h
    exact h
  have HCALL := Lib.hid hcall
  have HEL : Hid (∀ s, s ∈ l → elemB s.1 = true) := Lib.hid (fun s hs => by
    have := (validB_iff s).1 (List.all_eq_true.1 HVA.out s hs)
    rw [elemB_iff]; omega)
  have HPW := Lib.hid ((HA.out.below HB1.out).below HB.out)
  have HB0 := Lib.hid (below_trans HB1.out HB.out)
  clear hP3 hrd3 hcall hgood eql hc3 hm3 HO
  go_wp2_with fail
  obtain ⟨w5, rfl⟩ : ∃ w5 : World, w5 = wr := ⟨_, rfl⟩
  go_loopw [10, 11, 12] (fun u10 _ _ wr => ∃ r : Nat, r ≤ l.length - q ∧ u10 = .int .i64 ((q + r : Nat) : Int) ∧ Below w5.heap.size w5 wr ∧ ∀ s, s ∈ (l.drop q).take r → nv s.1 (l.take q) (q - 1) 0 = s.2) (fun u10 _ _ _ => l.length - (intOf u10).toNat)
  case atStart => exact ⟨0, Nat.zero_le _, rfl, Below.refl _ _, by simp⟩
  case round =>
  obtain ⟨r, hr, rfl, hB5, hok⟩ := hrel
  have HB5 := Lib.hid hB5; clear hB5
  have HOK := Lib.hid hok; clear hok
  by_cases hrl : q + r < l.length
  case pos =>
    obtain ⟨s, hs⟩ := get_some l (q + r) hrl
    have hsd : (l.drop q)[r]? = some s := by rw [List.getElem?_drop]; exact hs
    obtain ⟨b, off, rfl, hc1, hc2⟩ := (HPW.out.below HB5.out).at_ hs
    have hcl := lt_of_cell hc1
    have HCA := Lib.hid (HCALL.out s.1 (HEL.out s (List.mem_of_getElem? hs)) wr HB5.out)
    have HC2 : Hid (∀ W, Below wr.heap.size wr W → W.cell? ⟨b, off + (q + r) * 2 + 1, none⟩ = some (.int .i64 s.2)) := Lib.hid (fun W hW => kept_cell hW hc2)
    have HSD := Lib.hid hsd
    clear hs hsd hc2
    obtain ⟨z, hz⟩ : ∃ z : Nat, z = q + r := ⟨_, rfl⟩
    rw [← hz] at hc1 HC2 hrl ⊢
    have HZ := Lib.hid hz
    clear hz
    go_wp2_with fail
    refine HCA.out.mono ?_
    rintro e w6 ⟨rfl, hb6⟩
    have hc2 := HC2.out w6 hb6
    have hcl2 := lt_of_cell hc2
    have HB7 := Lib.hid (below_trans HB5.out hb6)
    clear hb6 hc1
    by_cases hy : nv s.1 (l.take q) (q - 1) 0 = s.2
    case pos =>
      have HY := Lib.hid hy
      have hy' : (nv s.1 (l.take q) (q - 1) 0 == s.2) = true := by simpa using hy
      have hy'' : (nv s.1 (l.take q) (q - 1) 0 != s.2) = false := by simpa using hy
      clear hy
      go_wp2
      go_roundw
      case rel =>
        refine ⟨r + 1, by have := HZ.out; omega, by rw [HZ.out]; go_num, HB7.out, fun t ht => ?_⟩
        rw [take_snoc _ r s HSD.out] at ht
        rcases List.mem_append.1 ht with ht | ht
        · exact HOK.out t ht
        · rw [List.mem_singleton.1 ht]; exact HY.out
      case measure => simp [intOf]; omega
    case neg =>
      have hj := joinF_wrong l q (by omega) (by omega) HVA.out HND.out hnl r s HSD.out hy
      have HJ := Lib.hid hj; clear hj
      have hy' : (nv s.1 (l.take q) (q - 1) 0 == s.2) = false := by simpa using hy
      have hy'' : (nv s.1 (l.take q) (q - 1) 0 != s.2) = true := by simpa using hy
      clear hy
      go_wp2
      go_ret2
      rw [HJ.out]
      exact ⟨rfl, below_trans HB0.out HB7.out⟩
  case neg =>
    have hall : ∀ s, s ∈ l.drop q → nv s.1 (l.take q) (q - 1) 0 = s.2 := by
      have := HOK.out
      rwa [List.take_of_length_le (by rw [List.length_drop]; omega)] at this
    have hj := joinF_ok l q (by omega) (by omega) HVA.out HND.out hnl hall
    have HJ := Lib.hid hj; clear hj hall
    have hge : ¬ ((q + r : Nat) : Int) < (l.length : Int) := by omega
    have HC0 := Lib.hid (HCALL.out 0 rfl wr HB5.out)
    go_wp2_with fail
    refine HC0.out.mono ?_
    rintro e w6 ⟨rfl, hb6⟩
    have HB6 := Lib.hid hb6; clear hb6
    go_wp2
    go_ret2
    rw [HJ.out]
    exact ⟨rfl, below_trans HB0.out (below_trans HB5.out HB6.out)⟩
end

section
open Go.RowKit

theorem good_phi {l : List (Int × Int)} (hg : Good l) : ((l.map fun p => (phi p.1, phi p.2)).map (·.1)).Nodup := by
  have e : (l.map fun p => (phi p.1, phi p.2)).map (·.1) = (l.map (·.1)).map phi := by rw [List.map_map, List.map_map]; rfl
  rw [e]
  refine List.pairwise_map.2 (List.Pairwise.imp_of_mem ?_ hg.nodup)
  intro a b ha hb hab
  obtain ⟨pa, hpa, rfl⟩ := List.mem_map.1 ha
  obtain ⟨pb, hpb, rfl⟩ := List.mem_map.1 hb
  have r1 := (elemB_iff _).1 (hg.elems pa hpa).1
  have r2 := (elemB_iff _).1 (hg.elems pb hpb).1
  exact phi_ne r1.1 r1.2 r2.1 r2.2 hab

/-- The shares lie on a polynomial of the field. -/
def OnC (C : List F) (l : List (Int × Int)) : Prop := ∀ s, s ∈ l → phi s.2 = ev C (phi s.1)

theorem onC_nv {l : List (Int × Int)} {n : Nat} (hg : Good l) (hn : 1 ≤ n) (hl : n ≤ l.length) {C : List F} (hC : C.length ≤ n) (h : OnC C (l.take n)) (x : Int) :
    phi (nv x (l.take n) (n - 1) 0) = ev C (phi x) := by
  have ht : (l.take n).length = n := List.length_take_of_le hl
  have := nv_ev (l.take n) (hg.take n) C h x (by omega) (by omega)
  rwa [ht] at this

theorem joinF_onC {l : List (Int × Int)} {n : Nat} (hv : l.all validB = true) (hnd : (l.map (·.1)).Nodup) (hn : 1 ≤ n) (hn' : n ≤ 16) (hl : n ≤ l.length) {C : List F} (hC : C.length ≤ n) (h : OnC C l) :
    joinF l n = (nv 0 (l.take n) (n - 1) 0, 0) := by
  have hg := good_of l hv hnd
  refine joinF_ok l n hn hn' hv hnd hl (fun s hs => ?_)
  have h1 := onC_nv hg hn hl hC (fun s hs => h s (List.mem_of_mem_take hs)) s.1
  have hsl := List.mem_of_mem_drop hs
  rw [← h s hsl] at h1
  have r1 := nv_range s.1 (l.take n) (hg.take n).elems (n - 1) 0
  have r2 := (elemB_iff _).1 (hg.elems s hsl).2
  exact phi_inj r1.1 r1.2 r2.1 r2.2 h1

theorem onC_of {l : List (Int × Int)} {n : Nat} (hg : Good l) (hn : 1 ≤ n) (hl : n ≤ l.length) (hw : ∀ s, s ∈ l.drop n → nv s.1 (l.take n) (n - 1) 0 = s.2) : ∃ C : List F, C.length ≤ n ∧ OnC C l := by
  obtain ⟨C, hCl, hC⟩ := interp_exists _ (good_phi (hg.take n))
  have hct : OnC C (l.take n) := fun t ht => (hC _ (List.mem_map_of_mem (f := fun p : Int × Int => (phi p.1, phi p.2)) ht)).symm
  have hcn : C.length ≤ n := by rw [List.length_map, List.length_take] at hCl; omega
  refine ⟨C, hcn, fun s hs => ?_⟩
  rw [← List.take_append_drop n l] at hs
  rcases List.mem_append.1 hs with h1 | h1
  · exact hct s h1
  · rw [← onC_nv hg hn hl hcn hct, hw s h1]

theorem joinF_perm {l m : List (Int × Int)} (h : l.Perm m) (need : Int) : joinF l need = joinF m need := by
  by_cases hneed : need < 1 ∨ 16 < need
  · rw [joinF_need l need hneed, joinF_need m need hneed]
  have hn1 : 1 ≤ need := by omega
  have hn16 : need ≤ 16 := by omega
  have hall : l.all validB = m.all validB := by
    rw [Bool.eq_iff_iff, List.all_eq_true, List.all_eq_true]
    exact ⟨fun k s hs => k s (h.mem_iff.2 hs), fun k s hs => k s (h.mem_iff.1 hs)⟩
  cases hv : l.all validB
  · rw [joinF_bad l need hn1 hn16 hv, joinF_bad m need hn1 hn16 (by rw [← hall]; exact hv)]
  have hv' : m.all validB = true := by rw [← hall]; exact hv
  have hnd : (l.map (·.1)).Nodup ↔ (m.map (·.1)).Nodup := (h.map _).nodup_iff
  by_cases hd : (l.map (·.1)).Nodup
  case neg => rw [joinF_dup l need hn1 hn16 hv hd, joinF_dup m need hn1 hn16 hv' (fun k => hd (hnd.2 k))]
  have hd' := hnd.1 hd
  have hlen := h.length_eq
  by_cases hfew : (l.length : Int) < need
  · rw [joinF_few l need hn1 hn16 hv hd hfew, joinF_few m need hn1 hn16 hv' hd' (by omega)]
  obtain ⟨n, rfl⟩ := Int.eq_ofNat_of_zero_le (show 0 ≤ need by omega)
  have hgl := good_of l hv hd
  have hgm := good_of m hv' hd'
  -- on one polynomial, in whatever order
  have key : ∀ (a b : List (Int × Int)), a.Perm b → a.all validB = true → b.all validB = true → (a.map (·.1)).Nodup → (b.map (·.1)).Nodup → n ≤ a.length → n ≤ b.length →
      (∀ s, s ∈ a.drop n → nv s.1 (a.take n) (n - 1) 0 = s.2) → joinF a n = joinF b n := by
    intro a b hab va vb da db la lb hw
    obtain ⟨C, hC, hon⟩ := onC_of (good_of a va da) (by omega) la hw
    have honb : OnC C b := fun s hs => hon s (hab.mem_iff.2 hs)
    rw [joinF_onC va da (by omega) (by omega) la hC hon, joinF_onC vb db (by omega) (by omega) lb hC honb]
    have h1 := onC_nv (good_of a va da) (by omega) la hC (fun s hs => hon s (List.mem_of_mem_take hs)) 0
    have h2 := onC_nv (good_of b vb db) (by omega) lb hC (fun s hs => honb s (List.mem_of_mem_take hs)) 0
    have r1 := nv_range 0 (a.take n) ((good_of a va da).take n).elems (n - 1) 0
    have r2 := nv_range 0 (b.take n) ((good_of b vb db).take n).elems (n - 1) 0
    rw [phi_inj r1.1 r1.2 r2.1 r2.2 (h1.trans h2.symm)]
  by_cases hw : ∀ s, s ∈ l.drop n → nv s.1 (l.take n) (n - 1) 0 = s.2
  · exact key l m h hv hv' hd hd' (by omega) (by omega) hw
  by_cases hw' : ∀ s, s ∈ m.drop n → nv s.1 (m.take n) (n - 1) 0 = s.2
  · exact (key m l h.symm hv' hv hd' hd (by omega) (by omega) hw').symm
  have bad : ∀ (a : List (Int × Int)), a.all validB = true → (a.map (·.1)).Nodup → n ≤ a.length → ¬ (∀ s, s ∈ a.drop n → nv s.1 (a.take n) (n - 1) 0 = s.2) → joinF a n = (0, 24) := by
    intro a va da la hno
    obtain ⟨t, ht⟩ := Classical.not_forall.1 hno
    have ht1 : t ∈ a.drop n := Classical.byContradiction fun e => ht fun h' => absurd h' e
    have ht2 : ¬ nv t.1 (a.take n) (n - 1) 0 = t.2 := fun e => ht fun _ => e
    obtain ⟨i, hi⟩ := List.getElem?_of_mem ht1
    exact joinF_wrong a n (by omega) (by omega) va da la i t hi ht2
  rw [bad l hv hd (by omega) hw, bad m hv' hd' (by omega) hw']
end

section
open Go.RowKit

def IArr (w : World) (B T : Nat) (l : List Int) : Prop := w.heap[B]? = some (.cells (l.map (Value.int .i64)).toArray T (0, 0))

theorem IArr.lt {w : World} {B T : Nat} {l : List Int} (h : IArr w B T l) : B < w.heap.size := (Array.getElem?_eq_some_iff.1 h).1
theorem IArr.cell {w : World} {B T : Nat} {l : List Int} (h : IArr w B T l) (j : Nat) (x : Int) (hx : l[j]? = some x) : w.cell? ⟨B, j, none⟩ = some (.int .i64 x) := by
  rw [cell_of_row w B j _ T (0, 0) h]; simp [hx]
theorem IArr.frozen {w : World} {B T : Nat} {l : List Int} (h : IArr w B T l) (j : Nat) : w.frozen? ⟨B, j, none⟩ = false := frozen_of_row w B j _ T h
theorem IArr.kept {w w' : World} {B T : Nat} {l : List Int} (h : IArr w B T l) (hb : w'.heap[B]? = w.heap[B]?) : IArr w' B T l := hb.trans h
theorem IArr.below {w w' : World} {B T : Nat} {l : List Int} (h : IArr w B T l) (hb : Below w.heap.size w w') : IArr w' B T l := h.kept (hb.block B h.lt)
theorem IArr.set {w : World} {B T : Nat} {l : List Int} (h : IArr w B T l) (i : Nat) (v : Int) : IArr (w.setCell ⟨B, i, none⟩ (.int .i64 v)) B T (l.set i v) := by
  have := heap_setCell_same w B i _ T (.int .i64 v) h
  unfold IArr
  rw [this]
  congr 2
  rw [List.map_set]
  simp
theorem IArr.own {w : World} {B T base : Nat} {l : List Int} (h : IArr w B T l) (hb : base ≤ B) (hn : l.length ≤ maxLen) :
    w.ownsRow base T 1 (.slice (some ⟨B, 0, none⟩) l.length l.length) l.length (l.map (Value.int .i64)) :=
  ⟨by simp, .inr ⟨B, l.length, _, rfl, hb, h, Nat.le_refl _, hn, by simp, by simp only [Nat.mul_one]; exact List.take_of_length_le (by simp)⟩⟩
theorem IArr.of_made {w : World} {base T n g : Nat} (h : w.ownsRow base T 1 (.slice (some ⟨g, 0, none⟩) n n) n (madeCells #[.int .i64 0] n).toList) : IArr w g T (List.replicate n 0) := by
  obtain ⟨h1, h2⟩ := h
  rcases h2 with ⟨h2, _⟩ | ⟨g', cap, cur, hv, _, hg, hn, _, hs, ht⟩
  · simp at h2
  · simp only [Value.slice.injEq, Option.some.injEq, Addr.mk.injEq, and_true, true_and] at hv
    obtain ⟨rfl, rfl⟩ := hv
    rw [List.take_of_length_le (by simp [hs])] at ht
    have e : cur = madeCells #[.int .i64 0] n := Array.toList_inj.1 ht
    unfold IArr
    rw [hg, e]
    congr 2
    apply Array.ext_getElem?
    intro j
    by_cases hj : j < n
    · simp [madeCells, hj, List.getElem?_replicate, Nat.mod_one]
    · simp [madeCells, hj, List.getElem?_replicate]
theorem set_take_succ {l r : List Int} {i : Nat} {v : Int} (h : l.take i = r.take i) (hi : i < l.length) (hv : r[i]? = some v) : (l.set i v).take (i + 1) = r.take (i + 1) := by
  rw [take_snoc r i v hv, take_snoc (l.set i v) i v (by simp [hi]), ← h]
  congr 1
  rw [List.take_set_of_le (Nat.le_refl _)]
end

section
open Go.RowKit

theorem strs_in {w : World} {A : Option Addr} {c : Nat} {l : List ByteArray} (h : SlC w 1 StrC [.slice A l.length c] l) : Strs w A l ∧ l.length ≤ 9223372036854775807 := by
  obtain ⟨A', c', he, h1, h2, h3⟩ := h
  obtain ⟨rfl, rfl⟩ : A = A' ∧ c = c' := by simpa using he
  refine ⟨⟨by simp, fun hn => ?_⟩, by unfold maxLen at h2; omega⟩
  obtain ⟨b, off, rfl, _, hc⟩ := h3 hn
  refine ⟨b, off, rfl, fun j u hu => ?_⟩
  rw [List.getElem?_map] at hu
  cases hx : l[j]? with
  | none => rw [hx] at hu; cases hu
  | some x =>
    rw [hx] at hu
    have hu' : Value.string x = u := by simpa using hu
    obtain ⟨cs', hl, hcs, hr⟩ := hc j x hx
    have := hcs 0 (.string x) (by rw [hr.1]; rfl)
    rw [← hu']
    simpa using this
end

section
open Go.RowKit

set_option maxHeartbeats 4000000 in
theorem rdig_any (A : Option Addr) (c : Nat) (l : List ByteArray) (w : World) (h : Strs w A l) (hl : l.length ≤ 9223372036854775807) (hs : ∀ s ∈ l, s.size ≤ 1000000000) :
    Calls Tryz.prog 92 #[.slice A l.length c] w fun e w' => e = .returned (.bool (allD l)) ∧ w = w' := by
  have H := Lib.hid h
  have HSZ := Lib.hid hs
  have HIS := Lib.hid (fun (t : ByteArray) (ht : t.size ≤ 1000000000) => ris t ht w)
  clear h hs
  go_enter Tryz.func92, Tryz.ntmps92
  go_wp2_with fail
  go_loop [3] (fun u => ∃ k : Nat, k ≤ l.length ∧ u = .int .i64 k ∧ allD (l.take k) = true) (fun u => l.length - (intOf u).toNat)
  case atStart => exact ⟨0, Nat.zero_le _, rfl, rfl⟩
  case round =>
    obtain ⟨k, hk, rfl, hall⟩ := hrel
    have HALL := Lib.hid hall
    clear hall
    by_cases hlt : k < l.length
    · obtain ⟨s, hs⟩ := get_some l k hlt
      obtain ⟨b, off, rfl, c0⟩ := H.out.at_ hs
      have c0l := lt_of_cell c0
      have hmem : s ∈ l := List.mem_of_getElem? hs
      have HC := Lib.hid (HIS.out s (HSZ.out s hmem))
      have hall2 : allD (l.take (k + 1)) = isD s := by
        have := all_take_succ isD l k s hs
        have h2 := HALL.out
        unfold allD at h2 ⊢
        rw [this, h2, Bool.true_and]
      have HA2 := Lib.hid hall2
      have hbad : isD s = false → allD l = false := fun h => by
        unfold allD
        rw [List.all_eq_false]
        exact ⟨s, hmem, by simp [h]⟩
      have HBAD := Lib.hid hbad
      clear hs hall2 hbad hmem
      obtain ⟨v, hv⟩ : ∃ v, isD s = v := ⟨_, rfl⟩
      rw [hv] at HC HA2 HBAD
      clear hv
      cases v with
      | true =>
        go_wp2_with fail
        refine HC.out.mono ?_
        rintro e _ ⟨rfl, rfl⟩
        go_wp2
        go_round
        case rel => exact ⟨k + 1, by omega, by go_num, HA2.out⟩
        case measure => simp [intOf]; omega
      | false =>
        have HBD := Lib.hid (HBAD.out rfl)
        clear HBAD HA2
        go_wp2_with fail
        refine HC.out.mono ?_
        rintro e _ ⟨rfl, rfl⟩
        go_wp2
        go_ret
        exact ⟨ret_bool HBD.out.symm, rfl⟩
    · obtain rfl : k = l.length := by omega
      rw [List.take_length] at HALL
      go_wp2
      go_ret
      exact ⟨ret_bool HALL.out.symm, rfl⟩

set_option maxHeartbeats 4000000 in
theorem rlen_any (q : Nat) : ∀ (n i : Nat) (w : World), n ≤ q → 1 ≤ n → n ≤ 1000000 → i < n →
    Calls Tryz.prog 113 #[.int .i64 n, .int .i64 i] w fun e w' => e = .returned (.int .i64 (plen n i)) ∧ w = w' := by
  induction q with
  | zero => intro n i w h1 h2; omega
  | succ q ih =>
    intro n i w hn h1 hbig hi
    by_cases h2 : 2 ≤ n
    · have k1 := hf_lt n h2
      have k2 := hf_pos n
      have hpn := plen_lt_n n i h1
      obtain ⟨k, hk⟩ : ∃ k, hf n = k := ⟨_, rfl⟩
      have HH := Lib.hid (rhalf_any n hbig w)
      have h3 := plen_lt n i h2
      have h4 := plen_ge n i h2
      rw [hk] at HH k1 k2 h3 h4
      have hn1 : ((n : Int) == 1) = false := by simp; omega
      by_cases hik : i < k
      · have HI := Lib.hid (ih k i w (by omega) k2 (by omega) hik)
        rw [h3 hik] at hpn ⊢
        have hyi : (i : Int) < (k : Int) := by omega
        clear ih h3 h4 hk
        generalize plen k i = z at *
        go_enter Tryz.func113, Tryz.ntmps113
        go_wp2_with fail
        refine HH.out.mono ?_
        rintro e _ ⟨rfl, rfl⟩
        go_wp2_with fail
        refine HI.out.mono ?_
        rintro e _ ⟨rfl, rfl⟩
        go_wp2
        go_ret
        exact ⟨ret_int (by go_num), rfl⟩
      · have HI := Lib.hid (ih (n - k) (i - k) w (by omega) (by omega) (by omega) (by omega))
        rw [h4 hik] at hpn ⊢
        have hni : ¬ (i : Int) < (k : Int) := by omega
        have e1 : (n : Int) - (k : Int) = ((n - k : Nat) : Int) := by omega
        have e2 : (i : Int) - (k : Int) = ((i - k : Nat) : Int) := by omega
        have HE1 := Lib.hid e1
        have HE2 := Lib.hid e2
        clear ih h3 h4 hk e1 e2
        generalize plen (n - k) (i - k) = z at *
        go_enter Tryz.func113, Tryz.ntmps113
        go_wp2_with fail
        refine HH.out.mono ?_
        rintro e _ ⟨rfl, rfl⟩
        go_wp2_with fail
        rw [HE1.out, HE2.out]
        refine HI.out.mono ?_
        rintro e _ ⟨rfl, rfl⟩
        go_wp2
        go_ret
        exact ⟨ret_int (by go_num), rfl⟩
    · obtain rfl : n = 1 := by omega
      rw [plen_one 1 i (by omega)]
      clear ih
      go_enter Tryz.func113, Tryz.ntmps113
      go_wp2
      go_ret
      exact ⟨rfl, rfl⟩

theorem rleaf_any (a : ByteArray) (ha : a.size ≤ 200) (w : World) :
    Calls Tryz.prog 77 #[.string a] w fun e w' => e = .returned (.string (lf a)) ∧ Below w.heap.size w w' := by
  have HL := Lib.hid (rlist (some ⟨w.heap.size, 0, none⟩) 2 [bLeaf, a] (w.alloc (.cells #[.string bLeaf, .string a] 9)) (Strs_new _ _ _ _ _ rfl rfl) (by simp) (by
    intro s hs
    simp only [List.mem_cons, List.not_mem_nil, or_false] at hs
    rcases hs with rfl | rfl
    · decide
    · exact ha))
  unfold bLeaf at HL
  go_enter Tryz.func77, Tryz.ntmps77
  go_wp2_with fail
  refine HL.out.mono ?_
  rintro e w1 ⟨rfl, hb1⟩
  have HB1 := Lib.hid (below_trans (below_alloc (Below.refl _ _) _) hb1)
  clear hb1
  go_wp2
  go_ret
  exact ⟨rfl, HB1.out⟩

theorem rRoot_any (A : Option Addr) (c : Nat) (l : List ByteArray) (w : World) (hbig : l.length ≤ 100000) (hcap : l.length ≤ c) (hS : Strs w A l) (hsm : sm l) :
    Calls Tryz.prog 48 #[.slice A l.length c] w fun e w' => e = .returned (.tuple #[.string (if allD l then rt l else ByteArray.empty), .int .i64 (if allD l then 0 else 1)]) ∧ Below w.heap.size w w' := by
  have HD := Lib.hid (rdig_any A c l w hS (by omega) (fun s hs => by have := hsm s hs; omega))
  have HR := Lib.hid (rroot_any l.length A c l w (Nat.le_refl _) hbig hcap hS hsm)
  clear hS hsm
  cases hv : allD l
  all_goals rw [hv] at HD
  case false =>
    simp only [Bool.false_eq_true, if_false]
    go_enter Tryz.func48, Tryz.ntmps48
    go_wp2_with fail
    refine HD.out.mono ?_
    rintro e _ ⟨rfl, rfl⟩
    go_wp2
    go_ret2
    exact ⟨rfl, Below.refl _ _⟩
  case true =>
    simp only [if_true]
    go_enter Tryz.func48, Tryz.ntmps48
    go_wp2_with fail
    refine HD.out.mono ?_
    rintro e _ ⟨rfl, rfl⟩
    go_wp2_with fail
    refine HR.out.mono ?_
    rintro e w1 ⟨rfl, hb1⟩
    have HB1 := Lib.hid hb1
    clear hb1
    go_wp2
    go_ret2
    exact ⟨rfl, HB1.out⟩

set_option maxHeartbeats 8000000 in
theorem rcheck_any (root : ByteArray) (n i : Int) (leaf : ByteArray) (A : Option Addr) (c : Nat) (p : List ByteArray) (w : World) (hS : Strs w A p) (hbig : p.length ≤ 1000000) (hcap : p.length ≤ c) (hleaf : leaf.size ≤ 200) (hsm : sm p) :
    Calls Tryz.prog 68 #[.string root, .int .i64 n, .int .i64 i, .string leaf, .slice A p.length c] w fun e w' => e = .returned (.bool (chkB root n i leaf p)) ∧ Below w.heap.size w w' := by
  have hno : ¬ (n ≤ 1000000 ∧ 0 ≤ i ∧ i < n) → chkB root n i leaf p = false := fun h => by unfold chkB; rw [decide_eq_false h]; simp
  have HNO := Lib.hid hno
  clear hno
  by_cases h1 : 1000000 < n
  · have hres := HNO.out (by omega)
    have hd1 : decide (1000000 < n) = true := decide_eq_true h1
    have HRES := Lib.hid hres
    clear hS hsm hres
    go_enter Tryz.func68, Tryz.ntmps68
    go_wp2
    go_ret
    exact ⟨ret_bool (HRES.out).symm, Below.refl _ _⟩
  have hd1 : decide (1000000 < n) = false := decide_eq_false h1
  by_cases h2 : i < 0
  · have HRES := Lib.hid (HNO.out (by omega))
    have hd2 : decide (i < 0) = true := decide_eq_true h2
    clear hS hsm
    go_enter Tryz.func68, Tryz.ntmps68
    go_wp2
    go_ret
    exact ⟨ret_bool (HRES.out).symm, Below.refl _ _⟩
  have hd2 : decide (i < 0) = false := decide_eq_false h2
  by_cases h3 : n ≤ i
  · have HRES := Lib.hid (HNO.out (by omega))
    have hd3 : decide (n ≤ i) = true := decide_eq_true h3
    clear hS hsm
    go_enter Tryz.func68, Tryz.ntmps68
    go_wp2
    go_ret
    exact ⟨ret_bool (HRES.out).symm, Below.refl _ _⟩
  obtain ⟨N, rfl⟩ : ∃ N : Nat, n = N := ⟨n.toNat, by omega⟩
  obtain ⟨I, rfl⟩ : ∃ I : Nat, i = I := ⟨i.toNat, by omega⟩
  have hd3 : decide (N ≤ I) = false := decide_eq_false (by omega)
  have hd4 : decide ((N : Int) ≤ (I : Int)) = false := decide_eq_false (by omega)
  have hd5 : decide (1000000 < N) = false := decide_eq_false (by omega)
  have HLEN := Lib.hid (rlen_any N N I w (Nat.le_refl _) (by omega) (by omega) (by omega))
  have HDG := Lib.hid (rdig_any A c p w hS (by omega) (fun s hs => by have := hsm s hs; omega))
  have HIS := Lib.hid (ris leaf (by omega) w)
  have hval : chkB root (N : Int) (I : Int) leaf p = (allD p && isD leaf && (decide (upv N I leaf p = root) && decide (p.length = plen N I))) := by
    unfold chkB
    rw [decide_eq_true (⟨by omega, by omega, by omega⟩ : (N : Int) ≤ 1000000 ∧ (0 : Int) ≤ I ∧ (I : Int) < N), Bool.true_and, Int.toNat_natCast, Int.toNat_natCast]
  have HUP : Hid (p.length = plen N I → Calls Tryz.prog 114 #[.int .i64 N, .int .i64 I, .string leaf, .slice A p.length c] w fun e w' => e = .returned (.string (upv N I leaf p)) ∧ Below w.heap.size w w') := Lib.hid (fun h => rup_any N N I leaf A c p w (Nat.le_refl _) (by omega) (by omega) (by omega) h hcap hS hsm hleaf)
  rw [hval]
  clear hS hsm HNO hval
  generalize upv N I leaf p = u at *
  generalize allD p = dp at *
  generalize isD leaf = dl at *
  obtain ⟨z, hz⟩ : ∃ z, plen N I = z := ⟨_, rfl⟩
  rw [hz] at HLEN HUP ⊢
  clear hz
  generalize p.length = m at *
  by_cases hlen : m = z
  case neg =>
    have hne : ((m : Int) == (z : Int)) = false := by simp; omega
    have hne0 : (m == z) = false := by simp; omega
    have hbn : ((m : Int) != (z : Int)) = true := by rw [bne, hne]; rfl
    have hres : (dp && dl && (decide (u = root) && decide (m = z))) = false := by rw [decide_eq_false hlen]; simp
    have HRES := Lib.hid hres
    clear hres
    go_enter Tryz.func68, Tryz.ntmps68
    go_wp2_with fail
    refine HLEN.out.mono ?_
    rintro e _ ⟨rfl, rfl⟩
    go_wp2
    go_ret
    exact ⟨ret_bool (HRES.out).symm, Below.refl _ _⟩
  case pos =>
  subst hlen
  have HUP1 := Lib.hid (HUP.out rfl)
  clear HUP
  rw [decide_eq_true (rfl : m = m), Bool.and_true]
  cases dp
  case false =>
    rw [Bool.false_and, Bool.false_and]
    go_enter Tryz.func68, Tryz.ntmps68
    go_wp2_with fail
    refine HLEN.out.mono ?_
    rintro e _ ⟨rfl, rfl⟩
    go_wp2_with fail
    refine HDG.out.mono ?_
    rintro e _ ⟨rfl, rfl⟩
    go_wp2
    go_ret
    exact ⟨rfl, Below.refl _ _⟩
  case true =>
  cases dl
  case false =>
    rw [Bool.true_and, Bool.false_and]
    go_enter Tryz.func68, Tryz.ntmps68
    go_wp2_with fail
    refine HLEN.out.mono ?_
    rintro e _ ⟨rfl, rfl⟩
    go_wp2_with fail
    refine HDG.out.mono ?_
    rintro e _ ⟨rfl, rfl⟩
    go_wp2_with fail
    refine HIS.out.mono ?_
    rintro e _ ⟨rfl, rfl⟩
    go_wp2
    go_ret
    exact ⟨rfl, Below.refl _ _⟩
  case true =>
  rw [Bool.true_and, Bool.true_and]
  by_cases hu : u = root
  case pos =>
    subst hu
    have t1 := beq_true u
    rw [decide_eq_true rfl]
    go_enter Tryz.func68, Tryz.ntmps68
    go_wp2_with fail
    refine HLEN.out.mono ?_
    rintro e _ ⟨rfl, rfl⟩
    go_wp2_with fail
    refine HDG.out.mono ?_
    rintro e _ ⟨rfl, rfl⟩
    go_wp2_with fail
    refine HIS.out.mono ?_
    rintro e _ ⟨rfl, rfl⟩
    go_wp2_with fail
    refine HUP1.out.mono ?_
    rintro e w1 ⟨rfl, hb1⟩
    have HB1 := Lib.hid hb1
    clear hb1
    go_wp2
    go_ret
    exact ⟨rfl, HB1.out⟩
  case neg =>
  obtain ⟨t1, t2⟩ := bne_of u root hu
  rw [decide_eq_false hu]
  go_enter Tryz.func68, Tryz.ntmps68
  go_wp2_with fail
  refine HLEN.out.mono ?_
  rintro e _ ⟨rfl, rfl⟩
  go_wp2_with fail
  refine HDG.out.mono ?_
  rintro e _ ⟨rfl, rfl⟩
  go_wp2_with fail
  refine HIS.out.mono ?_
  rintro e _ ⟨rfl, rfl⟩
  go_wp2_with fail
  refine HUP1.out.mono ?_
  rintro e w1 ⟨rfl, hb1⟩
  have HB1 := Lib.hid hb1
  clear hb1
  go_wp2
  go_ret
  exact ⟨rfl, HB1.out⟩
end

section
open Go.RowKit

def pathL (l : List ByteArray) (i : Int) : List ByteArray := if allD l = true ∧ 0 ≤ i ∧ i < l.length then pt l i.toNat else []
def pathE (l : List ByteArray) (i : Int) : Int := if allD l = true ∧ 0 ≤ i ∧ i < l.length then 0 else 1

theorem step_appM {P : Program} (w : World) {ops : Array Oper} {o : Oper} {a : Act} {K : Act → World → Prop} {Q : Exit → Act → World → Prop} {E : Prop} (hw : Region.wanted o (yielded ops a.tmps) = true) (s x : Operand) (t t2 : TypeId)
    (ho : o.op = .call { callee := .builtin .append, args := #[s, x], argTypes := #[t, t2] })
    (base : Nat) (e e2 : TypeId) (i : TypeInfo) (z : Value) (size bytes : Nat) (ht : P.underlying t = some (.slice e)) (ht2 : P.underlying t2 = some (.slice e2)) (hi : P.info? e = some i) (hz : i.zero = some z)
    (hsize : i.size = size) (hby : i.bytes = bytes) (hzs : z.cells.size = size) (hsz : 0 < size)
    (v : Value) (n : Nat) (xs : List Value) (hs : a.eval s = v) (hown : w.ownsRow base e size v n xs)
    (A : Option Addr) (m c : Nat) (news : List Value) (hx : a.eval x = .slice A m c) (hr : Rd w size A m news) (h1 : ∀ u ∈ news, u.oneCell' = true)
    (h63 : n + m ≤ maxLen) (hbytes : (n + m) * bytes ≤ 140737488355328) (hbase : base ≤ w.heap.size)
    (h : ∀ v' w', w'.ownsRow base e size v' (n + m) (xs ++ news) → w.grownBy w' v.ownBlock → K (a.put o.dst v') w') :
    if Region.wanted o (yielded ops a.tmps) = true then Oper.wp P o a w K Q else E := by
  rw [if_pos hw]
  obtain ⟨v', w', hrun, h2, h3⟩ := run_app (P := P) w base t t2 o.type e e2 i z size bytes ht ht2 hi hz hsize hby hzs hsz v n xs hown A m c news hr h1 h63 hbytes hbase
  unfold Oper.wp execOp
  simp only [ho, resolve, invoke, builtin, Sem.run_bind, Sem.run_pure, Result.andThen_ok, List.map_toArray, List.map_cons, List.map_nil, hs, hx, hrun]
  exact h v' w' h2 h3

theorem own_newM (w : World) (x : ByteArray) : (w.alloc (.cells #[.string x] 9)).ownsRow w.heap.size 9 1 (.slice (some ⟨w.heap.size, 0, none⟩) 1 1) 1 [.string x] :=
  ⟨rfl, .inr ⟨w.heap.size, 1, #[.string x], rfl, Nat.le_refl _, Blk.new w _ _ _ rfl, Nat.le_refl _, by decide, rfl, rfl⟩⟩

set_option maxRecDepth 100000 in
set_option maxHeartbeats 32000000 in
theorem rpath_any (q : Nat) : ∀ (A : Option Addr) (c : Nat) (l : List ByteArray) (i : Nat) (w : World), l.length ≤ q → i < l.length → l.length ≤ 100000 → l.length ≤ c → Strs w A l → sm l →
    Calls Tryz.prog 98 #[.slice A l.length c, .int .i64 i] w fun e w' => ∃ v, e = .returned v ∧ w'.ownsRow w.heap.size 9 1 v (pt l i).length ((pt l i).map Value.string) ∧ Below w.heap.size w w' := by
  induction q with
  | zero => intro A c l i w h1 h2; omega
  | succ q ih =>
    intro A c l i w hn hi hbig hcap hS hsm
    by_cases h2 : 2 ≤ l.length
    · obtain ⟨b, off, rfl, -⟩ := hS.2 (by omega)
      obtain ⟨k, hk⟩ : ∃ k, hf l.length = k := ⟨_, rfl⟩
      have HH := Lib.hid (rhalf_any l.length (by omega) w)
      have k1 := hf_lt l.length h2
      have k2 := hf_pos l.length
      have p1 := pt_lt l i h2
      have p2 := pt_ge l i h2
      rw [hk] at HH k1 k2 p1 p2
      obtain ⟨ip, hj1, hy0, hy1, hy2⟩ := info_parts info_strg
      have HI := Lib.hid (And.intro hj1 (And.intro hy0 (And.intro hy1 hy2)))
      clear hj1 hy0 hy1 hy2
      have hne : ((l.length : Int) == 1) = false := by simp; omega
      by_cases hik : i < k
      · skip
        have R2 : Hid (∀ W, Below w.heap.size w W → Calls Tryz.prog 93 #[.slice (some ⟨b, off + k, none⟩) (l.length - k) (c - k)] W fun e w' => e = .returned (.string (rt (l.drop k))) ∧ Below W.heap.size W w') := Lib.hid (fun W hW => by
          have := rroot_any l.length (some ⟨b, off + k, none⟩) (c - k) (l.drop k) W (by rw [List.length_drop]; omega) (by rw [List.length_drop]; omega) (by rw [List.length_drop]; omega) ((hS.below hW).drop k) (hsm.drop k)
          rw [List.length_drop] at this
          exact this)
        have H1 : Hid (∀ W, Below w.heap.size w W → Calls Tryz.prog 98 #[.slice (some ⟨b, off, none⟩) k c, .int .i64 i] W fun e w' => ∃ v, e = .returned v ∧ w'.ownsRow W.heap.size 9 1 v (pt (l.take k) i).length ((pt (l.take k) i).map Value.string) ∧ Below W.heap.size W w') := Lib.hid (fun W hW => by
          have := ih (some ⟨b, off, none⟩) c (l.take k) i W (by rw [List.length_take]; omega) (by rw [List.length_take]; omega) (by rw [List.length_take]; omega) (by rw [List.length_take]; omega) ((hS.below hW).take k) (hsm.take k)
          rw [List.length_take, Nat.min_eq_left (by omega)] at this
          exact this)
        have ht1 : (pt (l.take k) i).length ≤ 100000 := by rw [pt_len, List.length_take, Nat.min_eq_left (by omega)]; have := plen_lt_n k i k2; omega
        have HT1 := Lib.hid ht1
        rw [p1 hik]
        clear p1 p2 hS hsm ih hk h2 ht1
        generalize pt (l.take k) i = T at *
        generalize rt (l.drop k) = y at *
        generalize l.length = m at *
        have hyi : (i : Int) < (k : Int) := by omega
        have hkm : (k : Int) ≤ (m : Int) := by omega
        have hkc : (k : Int) ≤ (c : Int) := by omega
        have hck : (c = k) = False := by simp; omega
        go_enter Tryz.func98, Tryz.ntmps98
        go_wp2_with fail
        refine HH.out.mono ?_
        rintro e _ ⟨rfl, rfl⟩
        go_wp2_with fail
        refine wp_region_held_drew (S := fun _ => True) (by kernel_rfl) trivial (fun hS5 => ?_)
        refine wpAnyH_take (i := 0) (v := ?_) rfl (by kernel_rfl) (by kernel_rfl) (by kernel_rfl) (fun _ _ _ h => h) (Or.inl ⟨by kernel_rfl, ?hy⟩) hS5 ?rest
        case hy => (intro w hSw; clear hSw; go_simp; try with_reducible rfl)
        case rest =>
        refine wpAnyH_take (i := 1) (v := ?_) rfl (by kernel_rfl) (by kernel_rfl) (by kernel_rfl) (fun _ _ _ h => h) (Or.inl ⟨by kernel_rfl, ?hy⟩) hS5 ?rest
        case hy => (intro w hSw; clear hSw; go_simp; try with_reducible rfl)
        case rest =>
        refine wpAnyH_take (i := 2) (v := ?_) rfl (by kernel_rfl) (by kernel_rfl) (by kernel_rfl) (fun _ _ _ h => h) (Or.inl ⟨by kernel_rfl, ?hy⟩) hS5 ?rest
        case hy => (intro w hSw; clear hSw; go_simp; try with_reducible rfl)
        case rest =>
        refine wpAnyH_take (i := 3) (v := ?_) rfl (by kernel_rfl) (by kernel_rfl) (by kernel_rfl) (fun _ _ _ h => h) (Or.inl ⟨by kernel_rfl, ?hy⟩) hS5 ?rest
        case hy => (intro w hSw; clear hSw; go_simp; try with_reducible rfl)
        case rest =>
        refine wpAnyH_take (i := 5) (v := ?_) rfl (by kernel_rfl) (by kernel_rfl) (by kernel_rfl) (fun _ _ _ h => h) (Or.inl ⟨by kernel_rfl, ?hy⟩) hS5 ?rest
        case hy => (intro w hSw; clear hSw; go_simp; try with_reducible rfl)
        case rest =>
        refine wpAnyH_take (i := 6) (v := ?_) rfl (by kernel_rfl) (by kernel_rfl) (by kernel_rfl) (fun _ _ _ h => h) (Or.inl ⟨by kernel_rfl, ?hy⟩) hS5 ?rest
        case hy => (intro w hSw; clear hSw; go_simp; try with_reducible rfl)
        case rest =>
        refine wpAnyH_take (i := 7) (v := ?_) rfl (by kernel_rfl) (by kernel_rfl) (by kernel_rfl) (fun _ _ _ h => h) (Or.inl ⟨by kernel_rfl, ?hy⟩) hS5 ?rest
        case hy => (intro w hSw; clear hSw; go_simp; try with_reducible rfl)
        case rest =>
        refine wpAnyH_ready (rs := [4]) (by kernel_rfl) (by simp) ?_
        refine AllReadyH.cons rfl (fun K hK => ?_) AllReadyH.nil
        go_simp
        refine (H1.out _ (Below.refl _ _).drew).mono ?_
        rintro e W1 ⟨v1, rfl, ho, hb⟩
        have HB1 : Hid (Below w.heap.size w W1) := Lib.hid (below_trans (Below.refl _ _).drew hb)
        have HO1 : Hid (W1.ownsRow w.heap.size 9 1 v1 T.length (T.map Value.string)) := Lib.hid (own_base ho (Below.refl w.heap.size w).drew.size)
        clear ho hb
        go_simp
        refine hK.out _ _ trivial (fun _ => ?_)
        clear hK K
        refine wpAnyH_ready (rs := [8]) (by kernel_rfl) (by simp) ?_
        refine AllReadyH.cons rfl (fun K hK => ?_) AllReadyH.nil
        go_simp
        refine (R2.out W1 HB1.out).mono ?_
        rintro e W2 ⟨rfl, hb⟩
        have HB2 : Hid (Below w.heap.size w W2) := Lib.hid (below_trans HB1.out hb)
        have HO2 : Hid ((W2.alloc (.cells #[.string y] 9)).ownsRow w.heap.size 9 1 v1 T.length (T.map Value.string)) := Lib.hid (row_below (row_below HO1.out hb) (below_alloc (Below.refl _ _) _))
        clear hb
        go_simp
        refine hK.out _ _ trivial (fun _ => ?_)
        clear hK K
        refine wpAnyH_ready (rs := [9]) (by kernel_rfl) (by simp) ?_
        refine AllReadyH.cons rfl (fun K hK => ?_) AllReadyH.nil
        go_simp
        refine hK.out _ _ trivial (fun _ => ?_)
        clear hK K
        refine wpAnyH_ready (rs := [10]) (by kernel_rfl) (by simp) ?_
        refine AllReadyH.cons rfl (fun K hK => ?_) AllReadyH.nil
        refine step_appM (W2.alloc (.cells #[.string y] 9)) (by kernel_rfl) (.tmp 20) (.tmp 25) 30 30 rfl w.heap.size 9 9 ip _ 1 16 Tryz.underlying30 Tryz.underlying30 HI.out.1 HI.out.2.1 HI.out.2.2.1 HI.out.2.2.2 rfl (by omega) v1 T.length _ (by kernel_rfl) HO2.out (some ⟨W2.heap.size, 0, none⟩) 1 1 [.string y] (by kernel_rfl) (Rd_new W2 #[.string y] _ 1 1 _ rfl rfl) (by simp [Value.oneCell']) (by have := HT1.out; simp only [maxLen]; omega) (by have := HT1.out; omega) (by have := HB2.out.size; simp; omega) ?_
        intro v5 W5 ho hg
        have HB5 : Hid (Below w.heap.size w W5) := Lib.hid ((below_alloc HB2.out _).grown hg (by have := HB2.out.size; simp; omega) (fun j hj => (HO2.out.lt j hj).1))
        have HO5 := Lib.hid ho
        clear ho hg
        refine hK.out _ _ trivial (fun _ => ?_)
        clear hK K
        refine wpAnyH_take (i := 11) (v := ?_) rfl (by kernel_rfl) (by kernel_rfl) (by kernel_rfl) (fun _ _ _ h => h) (Or.inl ⟨by kernel_rfl, ?hy⟩) hS5 ?rest
        case hy => (intro w hSw; clear hSw; go_simp; try with_reducible rfl)
        case rest =>
        refine wpAnyH_done (by kernel_rfl) ?_ _
        go_wp2
        go_ret
        refine ⟨v5, rfl, ?_, HB5.out⟩
        have := HO5.out
        simpa using this
      · skip
        have R2 : Hid (∀ W, Below w.heap.size w W → Calls Tryz.prog 93 #[.slice (some ⟨b, off, none⟩) k c] W fun e w' => e = .returned (.string (rt (l.take k))) ∧ Below W.heap.size W w') := Lib.hid (fun W hW => by
          have := rroot_any l.length (some ⟨b, off, none⟩) c (l.take k) W (by rw [List.length_take]; omega) (by rw [List.length_take]; omega) (by rw [List.length_take]; omega) ((hS.below hW).take k) (hsm.take k)
          rw [List.length_take, Nat.min_eq_left (by omega)] at this
          exact this)
        have H1 : Hid (∀ W, Below w.heap.size w W → Calls Tryz.prog 98 #[.slice (some ⟨b, off + k, none⟩) (l.length - k) (c - k), .int .i64 ((i - k : Nat) : Int)] W fun e w' => ∃ v, e = .returned v ∧ w'.ownsRow W.heap.size 9 1 v (pt (l.drop k) (i - k)).length ((pt (l.drop k) (i - k)).map Value.string) ∧ Below W.heap.size W w') := Lib.hid (fun W hW => by
          have := ih (some ⟨b, off + k, none⟩) (c - k) (l.drop k) (i - k) W (by rw [List.length_drop]; omega) (by rw [List.length_drop]; omega) (by rw [List.length_drop]; omega) (by rw [List.length_drop]; omega) ((hS.below hW).drop k) (hsm.drop k)
          rw [List.length_drop] at this
          exact this)
        have ht1 : (pt (l.drop k) (i - k)).length ≤ 100000 := by rw [pt_len, List.length_drop]; have := plen_lt_n (l.length - k) (i - k) (by omega); omega
        have HT1 := Lib.hid ht1
        rw [p2 hik]
        clear p1 p2 hS hsm ih hk h2 ht1
        generalize pt (l.drop k) (i - k) = T at *
        generalize rt (l.take k) = y at *
        generalize l.length = m at *
        have hni : ¬ (i : Int) < (k : Int) := by omega
        have hwr : IntKind.i64.wrap ((i : Int) - (k : Int)) = ((i - k : Nat) : Int) := by rw [IntWalk.i64_in _ (by omega)]; omega
        have hkm : (k : Int) ≤ (m : Int) := by omega
        have hkc : (k : Int) ≤ (c : Int) := by omega
        have hck : (c = k) = False := by simp; omega
        go_enter Tryz.func98, Tryz.ntmps98
        go_wp2_with fail
        refine HH.out.mono ?_
        rintro e _ ⟨rfl, rfl⟩
        go_wp2_with fail
        refine wp_region_held_drew (S := fun _ => True) (by kernel_rfl) trivial (fun hS5 => ?_)
        refine wpAnyH_take (i := 0) (v := ?_) rfl (by kernel_rfl) (by kernel_rfl) (by kernel_rfl) (fun _ _ _ h => h) (Or.inl ⟨by kernel_rfl, ?hy⟩) hS5 ?rest
        case hy => (intro w hSw; clear hSw; go_simp; try with_reducible rfl)
        case rest =>
        refine wpAnyH_take (i := 1) (v := ?_) rfl (by kernel_rfl) (by kernel_rfl) (by kernel_rfl) (fun _ _ _ h => h) (Or.inl ⟨by kernel_rfl, ?hy⟩) hS5 ?rest
        case hy => (intro w hSw; clear hSw; go_simp; try with_reducible rfl)
        case rest =>
        refine wpAnyH_take (i := 2) (v := ?_) rfl (by kernel_rfl) (by kernel_rfl) (by kernel_rfl) (fun _ _ _ h => h) (Or.inl ⟨by kernel_rfl, ?hy⟩) hS5 ?rest
        case hy => (intro w hSw; clear hSw; go_simp; try with_reducible rfl)
        case rest =>
        refine wpAnyH_take (i := 3) (v := ?_) rfl (by kernel_rfl) (by kernel_rfl) (by kernel_rfl) (fun _ _ _ h => h) (Or.inl ⟨by kernel_rfl, ?hy⟩) hS5 ?rest
        case hy => (intro w hSw; clear hSw; go_simp; try with_reducible rfl)
        case rest =>
        refine wpAnyH_take (i := 4) (v := ?_) rfl (by kernel_rfl) (by kernel_rfl) (by kernel_rfl) (fun _ _ _ h => h) (Or.inl ⟨by kernel_rfl, ?hy⟩) hS5 ?rest
        case hy => (intro w hSw; clear hSw; go_simp; try with_reducible rfl)
        case rest =>
        refine wpAnyH_take (i := 5) (v := ?_) rfl (by kernel_rfl) (by kernel_rfl) (by kernel_rfl) (fun _ _ _ h => h) (Or.inl ⟨by kernel_rfl, ?hy⟩) hS5 ?rest
        case hy => (intro w hSw; clear hSw; go_simp; try with_reducible rfl)
        case rest =>
        refine wpAnyH_take (i := 7) (v := ?_) rfl (by kernel_rfl) (by kernel_rfl) (by kernel_rfl) (fun _ _ _ h => h) (Or.inl ⟨by kernel_rfl, ?hy⟩) hS5 ?rest
        case hy => (intro w hSw; clear hSw; go_simp; try with_reducible rfl)
        case rest =>
        refine wpAnyH_take (i := 8) (v := ?_) rfl (by kernel_rfl) (by kernel_rfl) (by kernel_rfl) (fun _ _ _ h => h) (Or.inl ⟨by kernel_rfl, ?hy⟩) hS5 ?rest
        case hy => (intro w hSw; clear hSw; go_simp; try with_reducible rfl)
        case rest =>
        refine wpAnyH_take (i := 9) (v := ?_) rfl (by kernel_rfl) (by kernel_rfl) (by kernel_rfl) (fun _ _ _ h => h) (Or.inl ⟨by kernel_rfl, ?hy⟩) hS5 ?rest
        case hy => (intro w hSw; clear hSw; go_simp; try with_reducible rfl)
        case rest =>
        refine wpAnyH_ready (rs := [6]) (by kernel_rfl) (by simp) ?_
        refine AllReadyH.cons rfl (fun K hK => ?_) AllReadyH.nil
        go_simp
        refine (H1.out _ (Below.refl _ _).drew).mono ?_
        rintro e W1 ⟨v1, rfl, ho, hb⟩
        have HB1 : Hid (Below w.heap.size w W1) := Lib.hid (below_trans (Below.refl _ _).drew hb)
        have HO1 : Hid (W1.ownsRow w.heap.size 9 1 v1 T.length (T.map Value.string)) := Lib.hid (own_base ho (Below.refl w.heap.size w).drew.size)
        clear ho hb
        go_simp
        refine hK.out _ _ trivial (fun _ => ?_)
        clear hK K
        refine wpAnyH_ready (rs := [10]) (by kernel_rfl) (by simp) ?_
        refine AllReadyH.cons rfl (fun K hK => ?_) AllReadyH.nil
        go_simp
        refine (R2.out W1 HB1.out).mono ?_
        rintro e W2 ⟨rfl, hb⟩
        have HB2 : Hid (Below w.heap.size w W2) := Lib.hid (below_trans HB1.out hb)
        have HO2 : Hid ((W2.alloc (.cells #[.string y] 9)).ownsRow w.heap.size 9 1 v1 T.length (T.map Value.string)) := Lib.hid (row_below (row_below HO1.out hb) (below_alloc (Below.refl _ _) _))
        clear hb
        go_simp
        refine hK.out _ _ trivial (fun _ => ?_)
        clear hK K
        refine wpAnyH_ready (rs := [11]) (by kernel_rfl) (by simp) ?_
        refine AllReadyH.cons rfl (fun K hK => ?_) AllReadyH.nil
        go_simp
        refine hK.out _ _ trivial (fun _ => ?_)
        clear hK K
        refine wpAnyH_ready (rs := [12]) (by kernel_rfl) (by simp) ?_
        refine AllReadyH.cons rfl (fun K hK => ?_) AllReadyH.nil
        refine step_appM (W2.alloc (.cells #[.string y] 9)) (by kernel_rfl) (.tmp 33) (.tmp 38) 30 30 rfl w.heap.size 9 9 ip _ 1 16 Tryz.underlying30 Tryz.underlying30 HI.out.1 HI.out.2.1 HI.out.2.2.1 HI.out.2.2.2 rfl (by omega) v1 T.length _ (by kernel_rfl) HO2.out (some ⟨W2.heap.size, 0, none⟩) 1 1 [.string y] (by kernel_rfl) (Rd_new W2 #[.string y] _ 1 1 _ rfl rfl) (by simp [Value.oneCell']) (by have := HT1.out; simp only [maxLen]; omega) (by have := HT1.out; omega) (by have := HB2.out.size; simp; omega) ?_
        intro v5 W5 ho hg
        have HB5 : Hid (Below w.heap.size w W5) := Lib.hid ((below_alloc HB2.out _).grown hg (by have := HB2.out.size; simp; omega) (fun j hj => (HO2.out.lt j hj).1))
        have HO5 := Lib.hid ho
        clear ho hg
        refine hK.out _ _ trivial (fun _ => ?_)
        clear hK K
        refine wpAnyH_take (i := 13) (v := ?_) rfl (by kernel_rfl) (by kernel_rfl) (by kernel_rfl) (fun _ _ _ h => h) (Or.inl ⟨by kernel_rfl, ?hy⟩) hS5 ?rest
        case hy => (intro w hSw; clear hSw; go_simp; try with_reducible rfl)
        case rest =>
        refine wpAnyH_done (by kernel_rfl) ?_ _
        go_wp2
        go_ret
        refine ⟨v5, rfl, ?_, HB5.out⟩
        have := HO5.out
        simpa using this
    · have h1 : l.length = 1 := by omega
      rw [pt_one l i h2]
      have hone : ((l.length : Int) == 1) = true := by simp; omega
      clear ih hS hsm
      go_enter Tryz.func98, Tryz.ntmps98
      go_wp2
      go_ret
      exact ⟨_, rfl, ⟨rfl, .inl ⟨rfl, rfl⟩⟩, Below.refl _ _⟩

set_option maxHeartbeats 8000000 in
theorem rPath_all (A : Option Addr) (c : Nat) (l : List ByteArray) (i : Int) (w : World) (hbig : l.length ≤ 100000) (hcap : l.length ≤ c) (hS : Strs w A l) (hsm : sm l) :
    Calls Tryz.prog 56 #[.slice A l.length c, .int .i64 i] w fun e w' => ∃ A' c', e = .returned (.tuple #[.slice A' (pathL l i).length c', .int .i64 (pathE l i)]) ∧ Strs w' A' (pathL l i) ∧ Below w.heap.size w w' := by
  have HPR := Lib.hid (rdig_any A c l w hS (by omega) (fun s hs => by have := hsm s hs; omega))
  obtain ⟨v, hv⟩ : ∃ v, allD l = v := ⟨_, rfl⟩
  cases v with
  | false =>
    rw [hv] at HPR
    clear hS hsm
    rw [show pathL l i = [] from if_neg (by rw [hv]; simp), show pathE l i = 1 from if_neg (by rw [hv]; simp)]
    go_enter Tryz.func56, Tryz.ntmps56
    go_wp2_with fail
    refine HPR.out.mono ?_
    rintro e _ ⟨rfl, rfl⟩
    go_wp2
    go_ret2
    exact ⟨none, 0, rfl, ⟨rfl, fun h => by simp at h⟩, Below.refl _ _⟩
  | true =>
    rw [hv] at HPR
    by_cases h0 : i < 0
    · skip
      clear hS hsm
      have hd0 : decide (i < 0) = true := decide_eq_true h0
      rw [show pathL l i = [] from if_neg (by omega), show pathE l i = 1 from if_neg (by omega)]
      go_enter Tryz.func56, Tryz.ntmps56
      go_wp2_with fail
      refine HPR.out.mono ?_
      rintro e _ ⟨rfl, rfl⟩
      go_wp2
      go_ret2
      exact ⟨none, 0, rfl, ⟨rfl, fun h => by simp at h⟩, Below.refl _ _⟩
    by_cases h1 : (l.length : Int) ≤ i
    · skip
      clear hS hsm
      have hd0 : decide (i < 0) = false := decide_eq_false h0
      have hd1 : decide ((l.length : Int) ≤ i) = true := decide_eq_true h1
      rw [show pathL l i = [] from if_neg (by omega), show pathE l i = 1 from if_neg (by omega)]
      go_enter Tryz.func56, Tryz.ntmps56
      go_wp2_with fail
      refine HPR.out.mono ?_
      rintro e _ ⟨rfl, rfl⟩
      go_wp2
      go_ret2
      exact ⟨none, 0, rfl, ⟨rfl, fun h => by simp at h⟩, Below.refl _ _⟩
    have hc : allD l = true ∧ 0 ≤ i ∧ i < l.length := ⟨hv, by omega, by omega⟩
    rw [show pathL l i = pt l i.toNat from if_pos hc, show pathE l i = 0 from if_pos hc]
    obtain ⟨I, rfl⟩ : ∃ I : Nat, i = I := ⟨i.toNat, by omega⟩
    rw [Int.toNat_natCast]
    have HP := Lib.hid (rpath_any l.length A c l I w (Nat.le_refl _) (by omega) hbig hcap hS hsm)
    have hd0 : decide ((I : Int) < 0) = false := decide_eq_false h0
    have hd1 : decide ((l.length : Int) ≤ (I : Int)) = false := decide_eq_false h1
    have hd2 : decide (l.length ≤ I) = false := decide_eq_false (by omega)
    clear hS hsm hc
    generalize pt l I = T at *
    go_enter Tryz.func56, Tryz.ntmps56
    go_wp2_with fail
    refine HPR.out.mono ?_
    rintro e _ ⟨rfl, rfl⟩
    go_wp2_with fail
    refine HP.out.mono ?_
    rintro e w1 ⟨v, rfl, ho, hb1⟩
    obtain ⟨A', c', rfl, -, -, hr⟩ := Rd.of_own ho
    have HR := Lib.hid hr
    have HB1 := Lib.hid hb1
    clear hb1 ho hr
    go_wp2
    go_ret2
    exact ⟨A', c', rfl, by unfold Strs; exact HR.out, HB1.out⟩
end

section
open Go.RowKit

set_option maxRecDepth 100000 in
set_option maxHeartbeats 1600000 in
theorem split_bad (secret : Int) (n m : Nat) (A : Option Addr) (c : Nat) (random : List Int) (w : World) (hA : Ints w A random) (h1 : 1 ≤ n) (h2 : n ≤ m) (h3 : m ≤ 16) (hn : random.length + 1 ≤ n) (hn' : n ≤ random.length + 1)
    (hall : (secret :: random).all elemB = false) :
    Calls Tryz.prog 101 #[.int .i64 secret, .int .i64 n, .int .i64 m, .slice A random.length c] w fun e w' =>
      e = .returned (.tuple #[.slice none 0 0, .int .i64 1]) ∧ Below w.heap.size w w' := by
  have HA := Lib.hid hA; clear hA
  have HALL := Lib.hid hall; clear hall
  have hmf : ∀ (fn : Fn) (first cap : Array Value) (w : World), (Instr.makeFunc fn first cap).run Tryz.prog w = .ok (.func fn first cap) w := fun _ _ _ _ => rfl
  have hb1 : ((random.length : Int) != (n : Int) - 1) = false := by simp; omega
  have hb2 : ((random.length : Int) == (n : Int) - 1) = true := by simp; omega
  obtain ⟨i0, hi0, hz0, hz1, hz2⟩ := info_parts info_int
  have hown0 := World.ownsRow_lit (base := w.heap.size) (e := 3) (size := 1) w #[Value.int .i64 secret] 1 (Nat.le_refl _) (by simp [maxLen]) rfl
  have HO := Lib.hid hown0; clear hown0
  go_enter Tryz.func101, Tryz.ntmps101
  go_wp2_with (at_builtin; refine wpList_app _ rfl (.tmp 41) (.tmp 42) 159 23 rfl w.heap.size 3 3 i0 (.int .i64 0) 1 8 Tryz.underlying159 Tryz.underlying23 hi0 hz0 hz1 hz2 rfl (by omega) _ 1 _ rfl HO.out A random.length c _ rfl (HA.out.below (below_alloc (Below.refl _ _) _)) (ints_oneCell _ _) (by simp only [maxLen]; omega) (by omega) (by simp) ?_)
  intro v1 w1 hown1 hg1
  obtain ⟨A1, c1, hv1, hc1, hm1, hrd1⟩ := Rd.of_own hown1
  obtain ⟨p, hp⟩ : ∃ p, p = secret :: random := ⟨_, rfl⟩
  have hpl : 1 + random.length = p.length := by rw [hp]; simp; omega
  rw [hpl] at hv1 hrd1
  have hp1 : p.length ≤ 16 := by omega
  subst hv1
  have hI1 : Ints w1 A1 p := by rw [hp] at hrd1 ⊢; exact hrd1
  have hB1 : Below w.heap.size w w1 := (below_alloc (Below.refl _ _) _).grown hg1 (by simp) (by simp [Value.ownBlock])
  clear hown1 hg1 hrd1 hpl
  have HI1 := Lib.hid hI1; clear hI1
  have HB1 := Lib.hid hB1; clear hB1
  rw [← hp] at HALL
  have HP := Lib.hid hp
  clear hp HO HA hn hn' hb1 hb2
  go_wp2_with fail
  go_loop [46] (fun u => ∃ k : Nat, k ≤ p.length ∧ u = .int .i64 k ∧ (p.take k).all elemB = true) (fun u => p.length - (intOf u).toNat)
  case atStart => exact ⟨0, Nat.zero_le _, rfl, rfl⟩
  case round =>
    obtain ⟨k, hk, rfl, hall⟩ := hrel
    have HAL := Lib.hid hall
    clear hall
    by_cases hlt : k < p.length
    · obtain ⟨x, hx⟩ := get_some p k hlt
      obtain ⟨b, off, rfl, hcell⟩ := HI1.out.at_ hx
      have HX := Lib.hid hx
      clear hx
      cases hex : elemB x
      case false =>
        have HEX := Lib.hid hex
        clear hex
        go_wp2_with fail
        refine (selement_any _ _).mono ?_
        rintro e w' ⟨rfl, rfl⟩
        rw [HEX.out]
        go_wp2
        go_ret2
        exact ⟨rfl, HB1.out⟩
      case true =>
        have HEX := Lib.hid hex
        clear hex
        go_wp2_with fail
        refine (selement_any _ _).mono ?_
        rintro e w' ⟨rfl, rfl⟩
        rw [HEX.out]
        go_wp2
        go_round
        case rel => exact ⟨k + 1, by omega, by go_num, by rw [all_take_succ _ _ _ _ HX.out, HAL.out, HEX.out]; rfl⟩
        case measure => simp [intOf]; omega
    · exfalso
      obtain rfl : k = p.length := by omega
      have := HAL.out
      rw [List.take_length, HALL.out] at this
      cases this

def splitOk (secret need total : Int) (random : List Int) : Bool := decide (1 ≤ total ∧ total ≤ 16 ∧ 1 ≤ need ∧ need ≤ total ∧ (random.length : Int) = need - 1) && (secret :: random).all elemB
def splitL (secret need total : Int) (random : List Int) : List (Int × Int) := if splitOk secret need total random then shs (secret :: random) total.toNat else []

set_option maxRecDepth 100000 in
set_option maxHeartbeats 4000000 in
theorem split_all (secret need total : Int) (A : Option Addr) (c : Nat) (random : List Int) (w : World) (hA : Ints w A random) (hmax : random.length ≤ 9223372036854775807) :
    Calls Tryz.prog 101 #[.int .i64 secret, .int .i64 need, .int .i64 total, .slice A random.length c] w fun e w' =>
      ∃ v, e = .returned (.tuple #[v, .int .i64 (if splitOk secret need total random then 0 else 1)]) ∧ w'.ownsRow w.heap.size 48 2 v (splitL secret need total random).length (flat2 (splitL secret need total random)) ∧ Below w.heap.size w w' := by
  by_cases hargs : 1 ≤ total ∧ total ≤ 16 ∧ 1 ≤ need ∧ need ≤ total ∧ (random.length : Int) = need - 1
  · obtain ⟨n, rfl⟩ : ∃ n : Nat, need = n := ⟨need.toNat, by omega⟩
    obtain ⟨m, rfl⟩ : ∃ m : Nat, total = m := ⟨total.toNat, by omega⟩
    cases hv : (secret :: random).all elemB
    · have e : splitOk secret n m random = false := by unfold splitOk; rw [hv, Bool.and_false]
      unfold splitL
      rw [e]
      exact (split_bad secret n m A c random w hA (by omega) (by omega) (by omega) (by omega) (by omega) hv).mono fun _ _ ⟨he, hb⟩ => ⟨_, he, ⟨rfl, .inl ⟨rfl, rfl⟩⟩, hb⟩
    · have e : splitOk secret n m random = true := by unfold splitOk; rw [hv, decide_eq_true hargs]; rfl
      unfold splitL
      rw [e, if_pos rfl, if_pos rfl, Int.toNat_natCast, shs_length]
      exact split_any secret n m A c random w hA (by omega) (by omega) (by omega) (by omega) (by omega) hv
  · have e : splitOk secret need total random = false := by unfold splitOk; rw [decide_eq_false hargs, Bool.false_and]
    unfold splitL
    rw [e]
    clear hA e
    by_cases h1 : total < 1
    · have dh1 : decide (total < 1) = true := decide_eq_true h1
      go_enter Tryz.func101, Tryz.ntmps101
      go_wp2
      go_ret2
      exact ⟨_, rfl, ⟨rfl, .inl ⟨rfl, rfl⟩⟩, Below.refl _ _⟩
    have dh1 : decide (total < 1) = false := decide_eq_false h1
    by_cases h2 : 16 < total
    · have dh2 : decide (16 < total) = true := decide_eq_true h2
      go_enter Tryz.func101, Tryz.ntmps101
      go_wp2
      go_ret2
      exact ⟨_, rfl, ⟨rfl, .inl ⟨rfl, rfl⟩⟩, Below.refl _ _⟩
    have dh2 : decide (16 < total) = false := decide_eq_false h2
    by_cases h3 : need < 1
    · have dh3 : decide (need < 1) = true := decide_eq_true h3
      go_enter Tryz.func101, Tryz.ntmps101
      go_wp2
      go_ret2
      exact ⟨_, rfl, ⟨rfl, .inl ⟨rfl, rfl⟩⟩, Below.refl _ _⟩
    have dh3 : decide (need < 1) = false := decide_eq_false h3
    by_cases h4 : total < need
    · have dh4 : decide (total < need) = true := decide_eq_true h4
      go_enter Tryz.func101, Tryz.ntmps101
      go_wp2
      go_ret2
      exact ⟨_, rfl, ⟨rfl, .inl ⟨rfl, rfl⟩⟩, Below.refl _ _⟩
    have dh4 : decide (total < need) = false := decide_eq_false h4
    have hsub : IntKind.i64.wrap (need - 1) = need - 1 := by rw [IntWalk.i64_in _ (by omega)]
    have hb1 : ((random.length : Int) == need - 1) = false := by simp only [beq_eq_false_iff_ne, ne_eq]; omega
    have hb2 : ((random.length : Int) != need - 1) = true := by rw [bne, hb1]; rfl
    clear hargs
    go_enter Tryz.func101, Tryz.ntmps101
    go_wp2
    go_ret2
    exact ⟨_, rfl, ⟨rfl, .inl ⟨rfl, rfl⟩⟩, Below.refl _ _⟩
end

section
open Go.RowKit

set_option maxRecDepth 100000 in
set_option maxHeartbeats 8000000 in
theorem rsplit_args (secret need total : Int) (A : Option Addr) (c : Nat) (random : List Int) (w : World) (hmax : random.length ≤ 9223372036854775807)
    (hbad : elemB secret = false ∨ ¬ (1 ≤ total ∧ total ≤ 16 ∧ 1 ≤ need ∧ need ≤ total ∧ (random.length : Int) = need - 1)) :
    Calls Tryz.prog 102 #[.int .i64 secret, .int .i64 need, .int .i64 total, .slice A random.length c] w fun e w' => e = .returned (.tuple #[.slice none 0 0, .int .i64 1]) ∧ Below w.heap.size w w' := by
  have HEL := Lib.hid (relement_any secret w)
  cases hs : elemB secret
  case false =>
    rw [hs] at HEL
    clear hbad hs
    go_enter Tryz.func102, Tryz.ntmps102
    go_wp2_with fail
    refine HEL.out.mono ?_
    rintro e _ ⟨rfl, rfl⟩
    go_wp2
    go_ret2
    exact ⟨rfl, Below.refl _ _⟩
  case true =>
  rw [hs] at HEL
  have hargs := hbad.resolve_left (by rw [hs]; simp)
  clear hbad hs
  by_cases h1 : total < 1
  · have d1 : decide (total < 1) = true := decide_eq_true h1
    go_enter Tryz.func102, Tryz.ntmps102
    go_wp2_with fail
    refine HEL.out.mono ?_
    rintro e _ ⟨rfl, rfl⟩
    go_wp2
    go_ret2
    exact ⟨rfl, Below.refl _ _⟩
  have d1 : decide (total < 1) = false := decide_eq_false h1
  by_cases h2 : 16 < total
  · have d2 : decide (16 < total) = true := decide_eq_true h2
    go_enter Tryz.func102, Tryz.ntmps102
    go_wp2_with fail
    refine HEL.out.mono ?_
    rintro e _ ⟨rfl, rfl⟩
    go_wp2
    go_ret2
    exact ⟨rfl, Below.refl _ _⟩
  have d2 : decide (16 < total) = false := decide_eq_false h2
  by_cases h3 : need < 1
  · have d3 : decide (need < 1) = true := decide_eq_true h3
    go_enter Tryz.func102, Tryz.ntmps102
    go_wp2_with fail
    refine HEL.out.mono ?_
    rintro e _ ⟨rfl, rfl⟩
    go_wp2
    go_ret2
    exact ⟨rfl, Below.refl _ _⟩
  have d3 : decide (need < 1) = false := decide_eq_false h3
  by_cases h4 : total < need
  · have d4 : decide (total < need) = true := decide_eq_true h4
    go_enter Tryz.func102, Tryz.ntmps102
    go_wp2_with fail
    refine HEL.out.mono ?_
    rintro e _ ⟨rfl, rfl⟩
    go_wp2
    go_ret2
    exact ⟨rfl, Below.refl _ _⟩
  have d4 : decide (total < need) = false := decide_eq_false h4
  have hsub : IntKind.i64.wrap (need - 1) = need - 1 := by rw [IntWalk.i64_in _ (by omega)]
  have hb1 : ((random.length : Int) == need - 1) = false := by simp only [beq_eq_false_iff_ne, ne_eq]; omega
  have hb2 : ((random.length : Int) != need - 1) = true := by rw [bne, hb1]; rfl
  clear hargs
  go_enter Tryz.func102, Tryz.ntmps102
  go_wp2_with fail
  refine HEL.out.mono ?_
  rintro e _ ⟨rfl, rfl⟩
  go_wp2
  go_ret2
  exact ⟨rfl, Below.refl _ _⟩
end

section
open Go.RowKit

theorem shs_succ (p : List Int) (m : Nat) : shs p (m + 1) = shs p m ++ [((m : Int) + 1, evp p ((m : Int) + 1))] := by
  unfold shs; rw [List.range_succ, List.map_append]; rfl

set_option maxRecDepth 100000 in
set_option maxHeartbeats 16000000 in
theorem rsplit_ok (secret : Int) (n m : Nat) (A : Option Addr) (c : Nat) (random : List Int) (w : World) (hA : Ints w A random) (h1 : 1 ≤ n) (h2 : n ≤ m) (h3 : m ≤ 16) (hn : random.length + 1 ≤ n) (hn' : n ≤ random.length + 1) (hs : elemB secret = true) (v : Bool) (hv : random.all elemB = v) :
    Calls Tryz.prog 102 #[.int .i64 secret, .int .i64 n, .int .i64 m, .slice A random.length c] w fun e w' =>
      ∃ u, e = .returned (.tuple #[u, .int .i64 (if v then 0 else 1)]) ∧ w'.ownsRow w.heap.size 48 2 u (if v then shs (secret :: random) m else []).length (flat2 (if v then shs (secret :: random) m else [])) ∧ Below w.heap.size w w' := by
  obtain ⟨p, hp⟩ : ∃ p, p = secret :: random := ⟨_, rfl⟩
  have HP := Lib.hid hp
  rw [← hp]
  clear hp
  have HA := Lib.hid hA
  have HV := Lib.hid hv
  have HS := Lib.hid hs
  obtain ⟨i0, hi0, hz0, hz1, hz2⟩ := info_parts info_int
  have HI := Lib.hid (And.intro hi0 (And.intro hz0 (And.intro hz1 hz2)))
  obtain ⟨i1, hj0, hy0, hy1, hy2⟩ := info_parts info_share
  have HJ := Lib.hid (And.intro hj0 (And.intro hy0 (And.intro hy1 hy2)))
  clear hi0 hz0 hz1 hz2 hj0 hy0 hy1 hy2
  have hown0 := World.ownsRow_lit (base := w.heap.size) (e := 3) (size := 1) w #[Value.int .i64 secret] 1 (Nat.le_refl _) (by simp [maxLen]) rfl
  have HO := Lib.hid hown0
  have HEL := Lib.hid (relement_any secret w)
  rw [hs] at HEL
  have HEA : Hid (∀ a W, Calls Tryz.prog 116 #[.int .i64 a] W fun e w' => e = .returned (.bool (elemB a)) ∧ W = w') := Lib.hid (fun a W => relement_any a W)
  have d1 : decide ((m : Int) < 1) = false := decide_eq_false (by omega)
  have d2 : decide (16 < (m : Int)) = false := decide_eq_false (by omega)
  have d3 : decide ((n : Int) < 1) = false := decide_eq_false (by omega)
  have d4 : decide (m < n) = false := decide_eq_false (by omega)
  have hb1 : ((random.length : Int) != (n : Int) - 1) = false := by simp; omega
  have hb2 : ((random.length : Int) == (n : Int) - 1) = true := by simp; omega
  clear hown0 hA hs hv
  go_enter Tryz.func102, Tryz.ntmps102
  go_wp2_with fail
  refine HEL.out.mono ?_
  rintro e _ ⟨rfl, rfl⟩
  go_wp2_with fail

  go_loopw [10, 11] (fun u10 u11 wr => ∃ k : Nat, k ≤ random.length ∧ u11 = .int .i64 k ∧ (random.take k).all elemB = true ∧ Below w.heap.size w wr ∧ wr.ownsRow w.heap.size 3 1 u10 (1 + k) ((secret :: random.take k).map (Value.int .i64))) (fun _ u11 _ => random.length - (intOf u11).toNat)
  case atStart => exact ⟨0, Nat.zero_le _, rfl, rfl, below_alloc (Below.refl _ _) _, HO.out⟩
  case round =>
  obtain ⟨k, hk, rfl, hall, hb, ho⟩ := hrel
  have HALL := Lib.hid hall
  have HB := Lib.hid hb
  have HOW := Lib.hid ho
  clear hall hb ho
  by_cases hlt : k < random.length
  case pos =>
    obtain ⟨x, hx⟩ := get_some random k hlt
    obtain ⟨b, off, rfl, hc⟩ := (HA.out.below HB.out).at_ hx
    have hcl := lt_of_cell hc
    have HX := Lib.hid hx
    clear hx
    cases hex : elemB x
    case false =>
      have HEX := Lib.hid hex
      have hvf : v = false := by rw [← HV.out]; exact all_false_of elemB random k x HX.out hex
      clear hex
      subst hvf
      go_wp2_with fail
      refine (HEA.out x wr).mono ?_
      rintro e _ ⟨rfl, rfl⟩
      rw [HEX.out]
      go_wp2
      go_ret2
      exact ⟨_, rfl, ⟨rfl, .inl ⟨rfl, rfl⟩⟩, HB.out⟩
    case true =>
      have HEX := Lib.hid hex
      clear hex
      go_wp2_with fail
      refine (HEA.out x wr).mono ?_
      rintro e _ ⟨rfl, rfl⟩
      rw [HEX.out]
      go_wp2_with (at_builtin; refine wpList_app _ rfl (.tmp 57) (.tmp 62) 23 23 rfl w.heap.size 3 3 i0 _ 1 8 Tryz.underlying23 Tryz.underlying23 HI.out.1 HI.out.2.1 HI.out.2.2.1 HI.out.2.2.2 rfl (by omega) u10 (1 + k) _ rfl (HOW.out.alloc _) (some ⟨wr.heap.size, 0, none⟩) 1 1 [.int .i64 x] rfl (Rd_new wr #[.int .i64 x] _ 1 1 _ rfl rfl) (by simp [Value.oneCell']) (by simp only [maxLen]; omega) (by omega) (by have := HB.out.size; simp; omega) ?_)
      intro v4 w4 hown4 hg4
      have HB4 : Hid (Below w.heap.size w w4) := Lib.hid ((below_alloc HB.out _).grown hg4 (by have := HB.out.size; simp; omega) (fun j hj => (HOW.out.lt j hj).1))
      have HO4 := Lib.hid hown4
      clear hown4 hg4
      go_wp2
      go_roundw
      case rel => exact ⟨k + 1, by omega, by go_num, by rw [all_take_succ _ _ _ _ HX.out, HALL.out, HEX.out]; rfl, HB4.out, by rw [take_snoc _ _ _ HX.out, ← Nat.add_assoc]; simpa using HO4.out⟩
      case measure => simp [intOf]; omega
  case neg =>
  obtain rfl : k = random.length := by omega
  have hvt : v = true := by rw [← HV.out]; have := HALL.out; rwa [List.take_length] at this
  subst hvt
  rw [List.take_length] at HALL HOW
  obtain ⟨A1, c1, rfl, -, -, hrd1⟩ := Rd.of_own HOW.out
  have hp := HP.out
  have hpl : p.length = 1 + random.length := by rw [hp]; simp; omega
  have hp1 : p.length ≤ 16 := by omega
  have hpall : p.all elemB = true := by rw [hp, List.all_cons, HALL.out, HS.out]; rfl
  rw [← hp] at hrd1
  have HI1 : Hid (Ints wr A1 p) := Lib.hid (by unfold Ints; rw [hpl]; exact hrd1)
  have HEV : Hid (∀ (x : Nat) (W : World), x < 16 → Below wr.heap.size wr W → Calls Tryz.prog 133 #[.slice A1 (1 + random.length) c1, .int .i64 ((x : Int) + 1)] W fun e w' => e = .returned (.tuple #[.int .i64 (evp p ((x : Int) + 1)), .int .i64 0]) ∧ Below W.heap.size W w') := Lib.hid (fun x W hx hW => by
    have := reval_any A1 c1 p _ W (HI1.out.below hW) hp1 hpall (by rw [elemB_iff]; omega : elemB ((x : Int) + 1) = true)
    rw [hpl] at this
    exact this)
  clear hp hpl hp1 hpall hrd1 HOW HO HP
  have HO0 : Hid (wr.ownsRow wr.heap.size 48 2 (.slice none 0 0) 0 []) := ⟨rfl, .inl ⟨rfl, rfl⟩⟩
  have HB1 := HB
  go_wp2_with fail
  obtain ⟨w1, rfl⟩ : ∃ w1 : World, w1 = wr := ⟨_, rfl⟩
  go_loopw [12, 13, 14, 15] (fun u12 u13 _ _ wr => ∃ k : Nat, k ≤ m ∧ u13 = .int .i64 ((k : Int) + 1) ∧ Below w1.heap.size w1 wr ∧ wr.ownsRow w1.heap.size 48 2 u12 k (flat2 (shs p k))) (fun _ u13 _ _ _ => m + 1 - (intOf u13).toNat)
  case atStart => exact ⟨0, Nat.zero_le _, rfl, Below.refl _ _, HO0.out⟩
  case round =>
  obtain ⟨k, hk, rfl, hb, ho⟩ := hrel
  have HB := Lib.hid hb
  have HOW := Lib.hid ho
  clear hb ho
  by_cases hlt : k < m
  case pos =>
    have hki : (k : Int) + 1 ≤ (m : Int) := by omega
    have HE1 := Lib.hid (HEV.out k wr (by omega) HB.out)
    generalize hy : evp p ((k : Int) + 1) = y at *
    have HY := Lib.hid hy
    clear hy
    go_wp2_with fail
    refine HE1.out.mono ?_
    rintro e w2 ⟨rfl, hb2⟩
    have HB2 := Lib.hid (below_trans HB.out hb2)
    have HO2 : Hid ((w2.alloc (.cells #[.int .i64 ((k : Int) + 1), .int .i64 y] 48)).ownsRow w1.heap.size 48 2 u12 k (flat2 (shs p k))) := Lib.hid (row_below (row_below HOW.out hb2) (below_alloc (Below.refl _ _) _))
    clear hb2
    go_wp2_with (at_builtin; refine wpList_app _ rfl (.tmp 75) (.tmp 79) 100 100 rfl w1.heap.size 48 48 i1 _ 2 16 Tryz.underlying100 Tryz.underlying100 HJ.out.1 HJ.out.2.1 HJ.out.2.2.1 HJ.out.2.2.2 rfl (by omega) u12 k _ rfl HO2.out (some ⟨w2.heap.size, 0, none⟩) 1 1 [.int .i64 ((k : Int) + 1), .int .i64 y] rfl (Rd_new w2 #[.int .i64 ((k : Int) + 1), .int .i64 y] _ 2 1 _ rfl rfl) (by simp [Value.oneCell']) (by simp only [maxLen]; omega) (by omega) (by have := HB2.out.size; simp; omega) ?_)
    intro v4 w4 hown4 hg4
    have HB4 : Hid (Below w1.heap.size w1 w4) := Lib.hid ((below_alloc HB2.out _).grown hg4 (by have := HB2.out.size; simp; omega) (fun j hj => (HO2.out.lt j hj).1))
    have HO4 := Lib.hid hown4
    clear hown4 hg4
    go_wp2
    go_roundw
    case rel => exact ⟨k + 1, by omega, by go_num, HB4.out, by rw [shs_succ, flat2_append, HY.out]; exact HO4.out⟩
    case measure => simp [intOf]; omega
  case neg =>
  obtain rfl : k = m := by omega
  go_wp2
  go_ret2
  exact ⟨_, rfl, by rw [shs_length]; exact own_mono HOW.out HB1.out.size, below_trans HB1.out HB.out⟩

set_option maxHeartbeats 4000000 in
theorem rsplit_all (secret need total : Int) (A : Option Addr) (c : Nat) (random : List Int) (w : World) (hA : Ints w A random) (hmax : random.length ≤ 9223372036854775807) :
    Calls Tryz.prog 102 #[.int .i64 secret, .int .i64 need, .int .i64 total, .slice A random.length c] w fun e w' =>
      ∃ v, e = .returned (.tuple #[v, .int .i64 (if splitOk secret need total random then 0 else 1)]) ∧ w'.ownsRow w.heap.size 48 2 v (splitL secret need total random).length (flat2 (splitL secret need total random)) ∧ Below w.heap.size w w' := by
  by_cases hbad : elemB secret = false ∨ ¬ (1 ≤ total ∧ total ≤ 16 ∧ 1 ≤ need ∧ need ≤ total ∧ (random.length : Int) = need - 1)
  · have e : splitOk secret need total random = false := by
      unfold splitOk
      rcases hbad with h | h
      · rw [List.all_cons, h, Bool.false_and, Bool.and_false]
      · rw [decide_eq_false h, Bool.false_and]
    unfold splitL
    rw [e]
    exact (rsplit_args secret need total A c random w hmax hbad).mono fun _ _ ⟨he, hb⟩ => ⟨_, he, ⟨rfl, .inl ⟨rfl, rfl⟩⟩, hb⟩
  · have hs : elemB secret = true := by
      cases h : elemB secret
      · exact absurd (.inl h) hbad
      · rfl
    have hargs : 1 ≤ total ∧ total ≤ 16 ∧ 1 ≤ need ∧ need ≤ total ∧ (random.length : Int) = need - 1 := Classical.byContradiction fun h => hbad (.inr h)
    obtain ⟨n, rfl⟩ : ∃ n : Nat, need = n := ⟨need.toNat, by omega⟩
    obtain ⟨m, rfl⟩ : ∃ m : Nat, total = m := ⟨total.toNat, by omega⟩
    have e : splitOk secret n m random = random.all elemB := by unfold splitOk; rw [decide_eq_true hargs, List.all_cons, hs]; rfl
    unfold splitL
    rw [e, Int.toNat_natCast]
    exact rsplit_ok secret n m A c random w hA (by omega) (by omega) (by omega) (by omega) (by omega) hs _ rfl
end

end Go.Proofs.YtjfondfjdhjooaaGreatDoor
