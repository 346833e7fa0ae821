/- The reference of layer 6: Interpolate. append inside a region that draws (a step of wpAnyH). Join of the reference at all arguments. The reference of layer 52: the vault. The reference of layer 52: Open. Steps of a vault as an argument; the methods of a nil vault. The reference of layer 52: Offset, Blind, Unblind. The law BlindingMatchesReference: what its walks share. -/
import Derived.Test.YtdlgejofggbifaaGreatDoorChBlindingMatchesReferenceE
import Derived.Deep.RegionHeld3
namespace Go.Proofs.YtdlgejofggbifaaGreatDoor

section
open Go.RowKit

set_option maxRecDepth 100000 in
set_option maxHeartbeats 16000000 in
theorem rinterp_any (A : Option Addr) (cap : Nat) (ps : List (Int × Int)) (x : Int) (w : World) (hc : Prs w A ps) (h1 : 1 ≤ ps.length) (h16 : ps.length ≤ 16) (hx : elemB x = true) (hg : Good ps) :
    Calls Tryz.prog 77 #[.slice A ps.length cap, .int .i64 x] w fun e w' => e = .returned (.tuple #[.int .i64 (nv x ps (ps.length - 1) 0), .int .i64 0]) ∧ Below w.heap.size w w' := by
  have hres := rsm_nv ps hg x (by omega)
  rw [← hres]
  obtain ⟨x0, x1⟩ := (elemB_iff x).1 hx
  obtain ⟨b, off, rfl, -⟩ := hc.2 (by omega)
  have HIN := Lib.hid (fun (a : Int) W => rin_any a W)
  have HIX := Lib.hid (rin_any x w)
  rw [hx] at HIX
  have HC : Hid (∀ k p, ps[k]? = some p → ∀ W, Below w.heap.size w W → W.cell? ⟨b, off + k * 2, none⟩ = some (.int .i64 p.1) ∧ W.cell? ⟨b, off + k * 2 + 1, none⟩ = some (.int .i64 p.2)) := Lib.hid (fun k p hk W hW => by
    obtain ⟨b', off', e, q1, q2⟩ := hc.at_ hk
    cases e
    exact ⟨kept_cell hW q1, kept_cell hW q2⟩)
  have HE : Hid (∀ (k : Nat) (p : Int × Int), ps[k]? = some p → elemB p.1 = true ∧ elemB p.2 = true) := Lib.hid (fun k p hk => hg.elems p (List.mem_of_getElem? hk))
  have HND : Hid (∀ (k i : Nat) (p q : Int × Int), ps[k]? = some p → ps[i]? = some q → k ≠ i → p.1 ≠ q.1) := Lib.hid (fun k i p q hk hi hne h => by
    have n1 : (ps.map (·.1))[k]? = some p.1 := by rw [List.getElem?_map, hk]; rfl
    have n2 : (ps.map (·.1))[i]? = some q.1 := by rw [List.getElem?_map, hi]; rfl
    obtain ⟨l1, g1⟩ := List.getElem?_eq_some_iff.1 n1
    obtain ⟨l2, g2⟩ := List.getElem?_eq_some_iff.1 n2
    exact hne ((List.getElem_inj hg.nodup (h₀ := l1) (h₁ := l2)).1 (by rw [g1, g2, h])))
  have HPT : Hid (∀ (k : Nat) (p : Int × Int), ps[k]? = some p → ptn ps k = p) := Lib.hid (fun k p hk => by unfold ptn; rw [hk]; rfl)
  obtain ⟨n, hn⟩ : ∃ n, ps.length = n := ⟨_, rfl⟩
  have HGET : Hid (∀ k, k < n → ∃ p, ps[k]? = some p) := Lib.hid (fun k hk => get_some ps k (by omega))
  have HN := Lib.hid hn
  have HRS : Hid (∀ k, rsm ps x (k + 1) = (rsm ps x k + abv ps x k (ptn ps k).2 n * ipw (abv ps (ptn ps k).1 k 1 n) 2147483645 % 2147483647) % 2147483647) := Lib.hid (fun k => by rw [rsm, hn])
  have HAB : Hid (∀ z i y k, abv ps z i y (k + 1) = if k = i then abv ps z i y k else abv ps z i y k * mns z (ptn ps k).1 % 2147483647) := Lib.hid (fun z i y k => rfl)
  have HAR := Lib.hid (abv_range ps)
  have HRR := Lib.hid (rsm_range ps x)
  have HPW : Hid (∀ (a : Int) (W : World), 0 ≤ a → a < 2147483647 → Calls Tryz.prog 104 #[.int .i64 a, .int .i64 2147483645] W fun e w' => e = .returned (.int .i64 (ipw a 2147483645)) ∧ W = w') := Lib.hid (fun a W h0 h1 => rpower_any a 2147483645 W h0 h1 (by omega))
  rw [hn] at h1 h16 ⊢
  have hd1 : decide (n < 1) = false := decide_eq_false (by omega)
  have hd2 : decide (16 < n) = false := decide_eq_false (by omega)
  have hd3 : decide ((n : Int) < 1) = false := decide_eq_false (by omega)
  have hd4 : decide ((16 : Int) < (n : Int)) = false := decide_eq_false (by omega)
  clear hc hg hx hres hn
  go_enter Tryz.func77, Tryz.ntmps77
  go_wp2_with fail
  refine HIX.out.mono ?_
  rintro e _ ⟨rfl, rfl⟩
  go_wp2_with fail
  go_loop [6] (fun u => ∃ k : Nat, k ≤ n ∧ u = .int .i64 k) (fun u => n - (intOf u).toNat)
  case atStart => exact ⟨0, Nat.zero_le _, rfl⟩
  case round =>
  obtain ⟨k, hk, rfl⟩ := hrel
  by_cases hlt : k < n
  case pos =>
    obtain ⟨p, hp⟩ := HGET.out k hlt
    obtain ⟨q1, q2⟩ := HC.out k p hp w (Below.refl _ _)
    obtain ⟨e1, e2⟩ := HE.out k p hp
    have ql := lt_of_cell q1
    have HI1 := Lib.hid (HIN.out p.1 w)
    have HI2 := Lib.hid (HIN.out p.2 w)
    rw [e1] at HI1
    rw [e2] at HI2
    have hki : (k : Int) < (n : Int) := by omega
    clear hp e1 e2
    go_wp2_with fail
    refine HI1.out.mono ?_
    rintro e _ ⟨rfl, rfl⟩
    go_wp2_with fail
    refine HI2.out.mono ?_
    rintro e _ ⟨rfl, rfl⟩
    go_wp2
    go_round
    case rel => exact ⟨k + 1, by omega, by go_num⟩
    case measure => simp [intOf]; omega
  case neg =>
  obtain rfl : k = n := by omega
  go_wp2_with fail
  go_loopw [7, 8, 9, 10, 11] (fun u7 u8 _ _ _ wr => ∃ i : Nat, i ≤ k ∧ u8 = .int .i64 i ∧ u7 = .int .i64 (rsm ps x i) ∧ Below w.heap.size w wr) (fun _ u8 _ _ _ _ => k - (intOf u8).toNat)
  case atStart => exact ⟨0, Nat.zero_le _, rfl, rfl, Below.refl _ _⟩
  case round =>
  obtain ⟨i, hi, rfl, rfl, hb⟩ := hrel
  have HB := Lib.hid hb
  clear hb
  by_cases hil : i < k
  case neg =>
    obtain rfl : i = k := by omega
    go_wp2
    go_ret2
    exact ⟨rfl, HB.out⟩
  case pos =>
  obtain ⟨p, hp⟩ := HGET.out i hil
  have HPI := Lib.hid hp
  have hptn := HPT.out i p hp
  obtain ⟨e1, e2⟩ := HE.out i p hp
  obtain ⟨a0, a1⟩ := (elemB_iff _).1 e1
  obtain ⟨c0, c1⟩ := (elemB_iff _).1 e2
  obtain ⟨q1, q2⟩ := HC.out i p hp wr HB.out
  have ql := lt_of_cell q1
  have hki : (i : Int) < (k : Int) := by omega
  have hrs := HRS.out i
  rw [hptn] at hrs
  have HRS1 := Lib.hid hrs
  clear hp hptn e1 e2 hrs
  generalize wr = wi at *
  go_wp2_with fail
  clear q1 q2 ql
  go_loopw [9, 10, 11] (fun u9 u10 u11 W => ∃ j : Nat, j ≤ k ∧ u11 = .int .i64 j ∧ u9 = .int .i64 (abv ps x i p.2 j) ∧ u10 = .int .i64 (abv ps p.1 i 1 j) ∧ Below w.heap.size w W) (fun _ _ u11 _ => k - (intOf u11).toNat)
  case atStart => exact ⟨0, Nat.zero_le _, rfl, rfl, rfl, HB.out⟩
  case round =>
  obtain ⟨j, hj, rfl, rfl, rfl, hb⟩ := hrel
  have HBJ := Lib.hid hb
  clear hb
  by_cases hjl : j < k
  case neg =>
    obtain rfl : j = k := by omega
    obtain ⟨m0, m1⟩ := HAR.out x i p.2 c0 c1 j
    obtain ⟨n0, n1⟩ := HAR.out p.1 i 1 (by omega) (by omega) j
    obtain ⟨s0, s1⟩ := HRR.out i
    have HNEW := Lib.hid HRS1.out
    generalize hU : abv ps x i p.2 j = U at *
    generalize hV : abv ps p.1 i 1 j = V at *
    have HP1 := Lib.hid (HPW.out V wr n0 n1)
    obtain ⟨p0, p1⟩ := ipw_range V 2147483645
    have HM1 := Lib.hid (rmul_any U (ipw V 2147483645) wr m0 (by omega) p0 (by omega))
    have r0 : 0 ≤ U * ipw V 2147483645 % 2147483647 := by omega
    have r1 : U * ipw V 2147483645 % 2147483647 < 2147483647 := by omega
    generalize U * ipw V 2147483645 % 2147483647 = pr at *
    generalize ipw V 2147483645 = pw at *
    generalize hS : rsm ps x i = S at *
    have hwr : IntKind.i64.wrap (S + pr) = S + pr := by rw [IntWalk.i64_in _ (by omega)]
    have htm : (S + pr).tmod 2147483647 = (S + pr) % 2147483647 := Int.tmod_eq_emod_of_nonneg (by omega)
    clear hU hV m0 m1 n0 n1 p0 p1
    go_wp2_with fail
    refine HP1.out.mono ?_
    rintro e _ ⟨rfl, rfl⟩
    go_wp2_with fail
    refine HM1.out.mono ?_
    rintro e _ ⟨rfl, rfl⟩
    go_wp2_with fail
    go_roundw
    case rel => exact ⟨i + 1, by omega, by go_num, by rw [HNEW.out], HBJ.out⟩
    case measure => simp [intOf]; omega
  case pos =>
  have hji : (j : Int) < (k : Int) := by omega
  by_cases hij : j = i
  case pos =>
    have hn1 := HAB.out x i p.2 j
    have hn2 := HAB.out p.1 i 1 j
    rw [if_pos hij] at hn1 hn2
    have HN1 := Lib.hid hn1
    have HN2 := Lib.hid hn2
    have he : ((j : Int) == (i : Int)) = true := by simp; omega
    clear hn1 hn2 hij
    go_wp2_with fail
    go_roundw
    case rel => exact ⟨j + 1, by omega, by go_num, by rw [HN1.out], by rw [HN2.out], HBJ.out⟩
    case measure => simp [intOf]; omega
  case neg =>
  obtain ⟨q, hq⟩ := HGET.out j hjl
  have hne := HND.out j i q p hq HPI.out hij
  obtain ⟨e1, e2⟩ := HE.out j q hq
  obtain ⟨d0, d1⟩ := (elemB_iff _).1 e1
  have hn1 := HAB.out x i p.2 j
  have hn2 := HAB.out p.1 i 1 j
  rw [if_neg hij, HPT.out j q hq] at hn1 hn2
  have HN1 := Lib.hid hn1
  have HN2 := Lib.hid hn2
  have hnij : ((j : Int) == (i : Int)) = false := by simp; omega
  have hqp : (q.1 == p.1) = false := by simpa using hne
  have HQJ := Lib.hid (HC.out j q hq)
  have HQI := Lib.hid (HC.out i p HPI.out)
  obtain ⟨m0, m1⟩ := HAR.out x i p.2 c0 c1 j
  obtain ⟨n0, n1⟩ := HAR.out p.1 i 1 (by omega) (by omega) j
  generalize abv ps x i p.2 j = U at *
  generalize abv ps p.1 i 1 j = V at *
  obtain ⟨g0, g1⟩ := mns_range x q.1
  obtain ⟨h0, h2⟩ := mns_range p.1 q.1
  have HMI := Lib.hid (fun W => rminus_any x q.1 W x0 (by omega) d0 (by omega))
  have HMU := Lib.hid (fun W => rmul_any U (mns x q.1) W m0 (by omega) g0 (by omega))
  have HMI2 := Lib.hid (fun W => rminus_any p.1 q.1 W a0 (by omega) d0 (by omega))
  have HMU2 := Lib.hid (fun W => rmul_any V (mns p.1 q.1) W n0 (by omega) h0 (by omega))
  generalize wr = wj at *
  clear hn1 hn2 hq hne e1 e2 hij m0 m1 n0 n1 g0 g1 h0 h2
  generalize U * mns x q.1 % 2147483647 = U2 at *
  generalize V * mns p.1 q.1 % 2147483647 = V2 at *
  generalize mns x q.1 = m1 at *
  generalize mns p.1 q.1 = m2 at *
  go_wp2_with fail
  refine wp_region_belowC (by kernel_rfl) (by kernel_rfl) (fun WQ HQS HQN => ?_)
  refine HQS.go (fun K hK => ?_)
  go_simp
  apply Exists.intro
  refine ⟨fun W hW => ?_, hK _ ?_⟩
  · (try go_simp)
    exact rfl
  clear hK K
  refine HQS.go (fun K hK => ?_)
  go_simp
  apply Exists.intro
  refine ⟨fun W hW => ?_, hK _ ?_⟩
  · (try go_simp)
    exact rfl
  clear hK K
  refine HQS.go (fun K hK => ?_)
  go_simp
  apply Exists.intro
  refine ⟨fun W hW => ?_, hK _ ?_⟩
  · (try go_simp)
    exact rfl
  clear hK K
  refine HQS.go (fun K hK => ?_)
  go_simp
  apply Exists.intro
  refine ⟨fun W hW => ?_, hK _ ?_⟩
  · (try go_simp)
    exact rfl
  clear hK K
  refine HQS.go (fun K hK => ?_)
  go_simp
  apply Exists.intro
  refine ⟨fun W hW => ?_, hK _ ?_⟩
  · obtain ⟨q1, q2⟩ := HQJ.out W (below_trans HBJ.out hW)
    have ql := lt_of_cell q1
    go_simp
    exact rfl
  clear hK K
  refine HQS.go (fun K hK => ?_)
  go_simp
  apply Exists.intro
  refine ⟨fun W hW => ?_, hK _ ?_⟩
  · (try go_simp)
    exact rfl
  clear hK K
  refine HQS.go (fun K hK => ?_)
  go_simp
  apply Exists.intro
  refine ⟨fun W hW => ?_, hK _ ?_⟩
  · (try go_simp)
    exact rfl
  clear hK K
  refine HQS.go (fun K hK => ?_)
  go_simp
  apply Exists.intro
  refine ⟨fun W hW => ?_, hK _ ?_⟩
  · (try go_simp)
    exact rfl
  clear hK K
  refine HQS.go (fun K hK => ?_)
  go_simp
  apply Exists.intro
  refine ⟨fun W hW => ?_, hK _ ?_⟩
  · (try go_simp)
    exact rfl
  clear hK K
  refine HQS.go (fun K hK => ?_)
  go_simp
  apply Exists.intro
  refine ⟨fun W hW => ?_, hK _ ?_⟩
  · obtain ⟨q1, q2⟩ := HQI.out W (below_trans HBJ.out hW)
    have ql := lt_of_cell q1
    go_simp
    exact rfl
  clear hK K
  refine HQS.go (fun K hK => ?_)
  go_simp
  apply Exists.intro
  refine ⟨fun W hW => ?_, hK _ ?_⟩
  · (try go_simp)
    exact rfl
  clear hK K
  refine HQN.go ?_
  intro w7 hW
  have HB7 := Lib.hid (below_trans HBJ.out hW)
  clear hW
  obtain ⟨q1, q2⟩ := HQJ.out w7 HB7.out
  have ql := lt_of_cell q1
  go_wp2_with fail
  refine (HMI.out w7).mono ?_
  rintro e _ ⟨rfl, rfl⟩
  go_wp2_with fail
  refine (HMU.out w7).mono ?_
  rintro e _ ⟨rfl, rfl⟩
  clear q1 q2 ql
  go_wp2_with fail
  refine wp_region_belowC (by kernel_rfl) (by kernel_rfl) (fun WQ HQS HQN => ?_)
  refine HQS.go (fun K hK => ?_)
  go_simp
  apply Exists.intro
  refine ⟨fun W hW => ?_, hK _ ?_⟩
  · (try go_simp)
    exact rfl
  clear hK K
  refine HQS.go (fun K hK => ?_)
  go_simp
  apply Exists.intro
  refine ⟨fun W hW => ?_, hK _ ?_⟩
  · (try go_simp)
    exact rfl
  clear hK K
  refine HQS.go (fun K hK => ?_)
  go_simp
  apply Exists.intro
  refine ⟨fun W hW => ?_, hK _ ?_⟩
  · (try go_simp)
    exact rfl
  clear hK K
  refine HQS.go (fun K hK => ?_)
  go_simp
  apply Exists.intro
  refine ⟨fun W hW => ?_, hK _ ?_⟩
  · (try go_simp)
    exact rfl
  clear hK K
  refine HQS.go (fun K hK => ?_)
  go_simp
  apply Exists.intro
  refine ⟨fun W hW => ?_, hK _ ?_⟩
  · (try go_simp)
    exact rfl
  clear hK K
  refine HQS.go (fun K hK => ?_)
  go_simp
  apply Exists.intro
  refine ⟨fun W hW => ?_, hK _ ?_⟩
  · obtain ⟨q1, q2⟩ := HQI.out W (below_trans HB7.out hW)
    have ql := lt_of_cell q1
    go_simp
    exact rfl
  clear hK K
  refine HQS.go (fun K hK => ?_)
  go_simp
  apply Exists.intro
  refine ⟨fun W hW => ?_, hK _ ?_⟩
  · (try go_simp)
    exact rfl
  clear hK K
  refine HQS.go (fun K hK => ?_)
  go_simp
  apply Exists.intro
  refine ⟨fun W hW => ?_, hK _ ?_⟩
  · (try go_simp)
    exact rfl
  clear hK K
  refine HQS.go (fun K hK => ?_)
  go_simp
  apply Exists.intro
  refine ⟨fun W hW => ?_, hK _ ?_⟩
  · (try go_simp)
    exact rfl
  clear hK K
  refine HQS.go (fun K hK => ?_)
  go_simp
  apply Exists.intro
  refine ⟨fun W hW => ?_, hK _ ?_⟩
  · (try go_simp)
    exact rfl
  clear hK K
  refine HQS.go (fun K hK => ?_)
  go_simp
  apply Exists.intro
  refine ⟨fun W hW => ?_, hK _ ?_⟩
  · obtain ⟨q1, q2⟩ := HQJ.out W (below_trans HB7.out hW)
    have ql := lt_of_cell q1
    go_simp
    exact rfl
  clear hK K
  refine HQS.go (fun K hK => ?_)
  go_simp
  apply Exists.intro
  refine ⟨fun W hW => ?_, hK _ ?_⟩
  · exact (HMI2.out W).mono fun _ _ ⟨he, hw⟩ => ⟨he, hw ▸ hW⟩
  clear hK K
  refine HQS.go (fun K hK => ?_)
  go_simp
  apply Exists.intro
  refine ⟨fun W hW => ?_, hK _ ?_⟩
  · exact (HMU2.out W).mono fun _ _ ⟨he, hw⟩ => ⟨he, hw ▸ hW⟩
  clear hK K
  refine HQS.go (fun K hK => ?_)
  go_simp
  apply Exists.intro
  refine ⟨fun W hW => ?_, hK _ ?_⟩
  · (try go_simp)
    exact rfl
  clear hK K
  refine HQN.go ?_
  intro w8 hW
  have HB8 := Lib.hid (below_trans HB7.out hW)
  clear hW
  go_wp2_with fail
  go_roundw
  case rel => exact ⟨j + 1, by omega, by go_num, by rw [HN1.out], by rw [HN2.out], HB8.out⟩
  case measure => simp [intOf]; omega

  
end

section
open Go.RowKit

theorem step_app {P : Program} (w : World) {ops : Array Oper} {o : Oper} {a : Act} {K : Act → World → Prop} {Q : Exit → Act → World → Prop} {E : Prop} (hw : Region.wanted o (yielded ops a.tmps) = true) (s x : Operand) (t t2 : TypeId)
    (ho : o.op = .call { callee := .builtin .append, args := #[s, x], argTypes := #[t, t2] })
    (base : Nat) (e e2 : TypeId) (i : TypeInfo) (z : Value) (size bytes : Nat) (ht : P.underlying t = some (.slice e)) (ht2 : P.underlying t2 = some (.slice e2)) (hi : P.info? e = some i) (hz : i.zero = some z)
    (hsize : i.size = size) (hby : i.bytes = bytes) (hzs : z.cells.size = size) (hsz : 0 < size)
    (v : Value) (n : Nat) (xs : List Value) (hs : a.eval s = v) (hown : w.ownsRow base e size v n xs)
    (A : Option Addr) (m c : Nat) (news : List Value) (hx : a.eval x = .slice A m c) (hr : Rd w size A m news) (h1 : ∀ u ∈ news, u.oneCell' = true)
    (h63 : n + m ≤ maxLen) (hbytes : (n + m) * bytes ≤ 140737488355328) (hbase : base ≤ w.heap.size)
    (h : ∀ v' w', w'.ownsRow base e size v' (n + m) (xs ++ news) → w.grownBy w' v.ownBlock → K (a.put o.dst v') w') :
    if Region.wanted o (yielded ops a.tmps) = true then Oper.wp P o a w K Q else E := by
  rw [if_pos hw]
  obtain ⟨v', w', hrun, h2, h3⟩ := run_app (P := P) w base t t2 o.type e e2 i z size bytes ht ht2 hi hz hsize hby hzs hsz v n xs hown A m c news hr h1 h63 hbytes hbase
  unfold Oper.wp execOp
  simp only [ho, resolve, invoke, builtin, Sem.run_bind, Sem.run_pure, Result.andThen_ok, List.map_toArray, List.map_cons, List.map_nil, hs, hx, hrun]
  exact h v' w' h2 h3


theorem AllReady.consS {P : Program} {ops : Array Oper} {Q : Exit → Act → World → Prop} {md : Region.Mode} {fuel : Nat} {listed : Array Bool} {a : Act} {w : World} {i : Nat} {o : Oper} {rs : List Nat} (ho : ops[i]? = some o)
    (h : ∀ K' : Act → World → Prop, Shut (∀ a w, wpAny P md ops Q fuel (listed.setIfInBounds i true) a w → K' a w) → if Region.wanted o (yielded ops a.tmps) = true then Oper.wp P o a w K' Q else K' (a.put o.dst undef) w)
    (hs : AllReady P md ops Q fuel listed a w rs) : AllReady P md ops Q fuel listed a w (i :: rs) := AllReady.cons ho (fun K' hK => h K' hK) hs
end

section
open Go.RowKit

theorem nd_snoc (l : List (Int × Int)) (i : Nat) (s : Int × Int) (hs : l[i]? = some s) (hnd : ((l.take i).map (·.1)).Nodup) (hne : ∀ (j : Nat) (t : Int × Int), j < i → l[j]? = some t → t.1 ≠ s.1) : ((l.take (i + 1)).map (·.1)).Nodup := by
  rw [take_snoc l i s hs, List.map_append, List.nodup_append]
  refine ⟨hnd, by simp, ?_⟩
  intro a ha b hb e
  simp only [List.map_cons, List.map_nil, List.mem_singleton] at hb
  obtain ⟨t, ht, rfl⟩ := List.mem_map.1 ha
  obtain ⟨j, hj⟩ := List.getElem?_of_mem ht
  rw [List.getElem?_take] at hj
  split at hj
  · next h => exact hne j t h hj (by rw [e, hb])
  · cases hj
theorem nd_not (l : List (Int × Int)) (i j : Nat) (s t : Int × Int) (hj : j < i) (hs : l[i]? = some s) (ht : l[j]? = some t) (he : t.1 = s.1) : ¬ (l.map (·.1)).Nodup := by
  intro hnd
  exact nodup_ne hnd j i t.1 s.1 (by rw [List.getElem?_map, ht]; rfl) (by rw [List.getElem?_map, hs]; rfl) hj he

set_option maxRecDepth 100000 in
set_option maxHeartbeats 32000000 in
theorem rjoin_all (A : Option Addr) (c : Nat) (l : List (Int × Int)) (need : Int) (w : World) (hA : Prs w A l) (hlen : l.length ≤ 1000000) :
    Calls Tryz.prog 48 #[.slice A l.length c, .int .i64 need] w fun e w' =>
      e = .returned (.tuple #[.int .i64 (joinF l need).1, .int .i64 (joinF l need).2]) ∧ Below w.heap.size w w' := by
  by_cases hneed : need < 1 ∨ 16 < need
  · have hJ := Lib.hid (joinF_need l need hneed)
    rcases hneed with hneed | hneed
    · go_enter Tryz.func48, Tryz.ntmps48
      go_wp2
      go_ret2
      rw [hJ.out]
      exact ⟨rfl, Below.refl _ _⟩
    · go_enter Tryz.func48, Tryz.ntmps48
      go_wp2
      go_ret2
      rw [hJ.out]
      exact ⟨rfl, Below.refl _ _⟩
  have hn1 : 1 ≤ need := by omega
  have hn16 : need ≤ 16 := by omega
  clear hneed
  obtain ⟨n, rfl⟩ := Int.eq_ofNat_of_zero_le (show 0 ≤ need by omega)
  have HA := Lib.hid hA; clear hA
  obtain ⟨i2, hi2, hy0, hy1, hy2⟩ := info_parts info_point
  have HI2 := Lib.hid (And.intro hi2 (And.intro hy0 (And.intro hy1 hy2)))
  clear hi2 hy0 hy1 hy2
  go_enter Tryz.func48, Tryz.ntmps48
  go_wp2_with fail
  go_loopw [6] (fun u6 wr => ∃ k : Nat, k ≤ l.length ∧ u6 = .int .i64 k ∧ (l.take k).all validB = true ∧ Below w.heap.size w wr) (fun u6 _ => l.length - (intOf u6).toNat)
  case atStart => exact ⟨0, Nat.zero_le _, rfl, rfl, Below.refl _ _⟩
  case round =>
  obtain ⟨k, hk, rfl, hall, hbw⟩ := hrel
  have HALL := Lib.hid hall
  have HBW := Lib.hid hbw
  clear hall hbw
  by_cases hlt : k < l.length
  case pos =>
    obtain ⟨s, hs⟩ := get_some l k hlt
    obtain ⟨b, off, rfl, hc1, hc2⟩ := (HA.out.below HBW.out).at_ hs
    have hcl := lt_of_cell hc1
    have HS := Lib.hid hs
    clear hs
    cases hvs : validB s
    case false =>
      have HVS := Lib.hid hvs
      have HJ := Lib.hid (joinF_bad l n hn1 hn16 (all_false_of validB l k s HS.out hvs))
      clear hvs
      go_wp2_with fail
      refine (rvalid_any s.1 s.2 _).mono ?_
      rintro e w' ⟨rfl, rfl⟩
      rw [HVS.out]
      go_wp2
      go_ret2
      rw [HJ.out]
      exact ⟨rfl, below_alloc HBW.out _⟩
    case true =>
      have HVS := Lib.hid hvs
      clear hvs
      go_wp2_with fail
      refine (rvalid_any s.1 s.2 _).mono ?_
      rintro e w' ⟨rfl, rfl⟩
      rw [HVS.out]
      go_wp2
      go_roundw
      case rel => exact ⟨k + 1, by omega, by go_num, by rw [all_take_succ _ _ _ _ HS.out, HALL.out, HVS.out]; rfl, below_alloc HBW.out _⟩
      case measure => simp [intOf]; omega
  case neg =>
  obtain rfl : k = l.length := by omega
  rw [List.take_length] at HALL
  have HVA := HALL
  have HB1 := HBW
  have HO0 : Hid (wr.ownsRow wr.heap.size 74 2 (.slice none 0 0) 0 []) := ⟨rfl, .inl ⟨rfl, rfl⟩⟩
  clear HALL HBW
  go_wp2_with fail
  obtain ⟨w1, rfl⟩ : ∃ w1 : World, w1 = wr := ⟨_, rfl⟩
  go_loopw [7, 8, 9] (fun u7 u8 _ wr => ∃ i q : Nat, i ≤ l.length ∧ q = min i n ∧ u8 = .int .i64 i ∧ Below w1.heap.size w1 wr ∧ ((l.take i).map (·.1)).Nodup ∧ wr.ownsRow w1.heap.size 74 2 u7 q (flat2 (l.take q))) (fun _ u8 _ _ => l.length - (intOf u8).toNat)
  case atStart => exact ⟨0, 0, Nat.zero_le _, by omega, rfl, Below.refl _ _, by simp, HO0.out⟩
  case round =>
  obtain ⟨i, q, hi, hq, rfl, hb, hnd, ho⟩ := hrel
  have HB := Lib.hid hb
  have HND := Lib.hid hnd
  have HO := Lib.hid ho
  have HQ := Lib.hid hq
  clear hb hnd ho hq
  by_cases hil : i < l.length
  case pos =>
    obtain ⟨s, hs⟩ := get_some l i hil
    have HS := Lib.hid hs
    clear hs
    go_wp2_with fail
    obtain ⟨wi, rfl⟩ : ∃ wi : World, wi = wr := ⟨_, rfl⟩
    go_loopw [9] (fun u9 W => ∃ j : Nat, j ≤ i ∧ u9 = .int .i64 j ∧ Below wi.heap.size wi W ∧ (∀ (j' : Nat) (t : Int × Int), j' < j → l[j']? = some t → t.1 ≠ s.1)) (fun u9 _ => i - (intOf u9).toNat)
    case atStart => exact ⟨0, Nat.zero_le _, rfl, Below.refl _ _, fun j' t h => absurd h (by omega)⟩
    case round =>
    obtain ⟨j, hj, rfl, hbj, hne⟩ := hrel
    have HBJ := Lib.hid hbj
    have HNE := Lib.hid hne
    clear hbj hne
    have HPW := Lib.hid (((HA.out.below HB1.out).below HB.out).below HBJ.out)
    by_cases hji : j < i
    case pos =>
      obtain ⟨t, ht⟩ := get_some l j (by omega)
      obtain ⟨b, off, rfl, hc1, hc2⟩ := HPW.out.at_ ht
      obtain ⟨b', off', he, hd1, hd2⟩ := HPW.out.at_ HS.out
      cases he
      have hcl := lt_of_cell hc1
      have HTJ := Lib.hid ht
      clear ht hc2 hd2
      by_cases hts : t.1 = s.1
      case pos =>
        have e1 : (t.1 == s.1) = true := by simp [hts]
        have HJ := Lib.hid (joinF_dup l n hn1 hn16 HVA.out (nd_not l i j s t hji HS.out HTJ.out hts))
        clear hts
        go_wp2_with fail
        go_quiet (fail)
        go_wp2
        go_ret2
        rw [HJ.out]
        exact ⟨rfl, below_drewN (below_trans HB1.out (below_trans HB.out HBJ.out)) _⟩
      case neg =>
        have e1 : (t.1 == s.1) = false := by simp [hts]
        have HTS : Hid (t.1 ≠ s.1) := Lib.hid hts
        clear hts
        go_wp2_with fail
        go_quiet (fail)
        go_wp2
        go_roundw
        case rel =>
          refine ⟨j + 1, by omega, by go_num, below_drewN HBJ.out _, fun j' t' hj' ht' => ?_⟩
          by_cases hjj : j' = j
          · rw [hjj, HTJ.out] at ht'
            cases ht'
            exact HTS.out
          · exact HNE.out j' t' (by omega) ht'
        case measure => simp [intOf]; omega
    case neg =>
    obtain rfl : j = i := by omega
    have HND2 := Lib.hid (nd_snoc l j s HS.out HND.out HNE.out)
    have HOJ := Lib.hid (row_below HO.out HBJ.out)
    have HBI := Lib.hid (below_trans HB.out HBJ.out)
    clear HND HNE HO HB HBJ
    by_cases hin : j < n
    case pos =>
      obtain rfl : j = q := by have := HQ.out; omega
      clear HQ
      obtain ⟨b, off, rfl, hd1, hd2⟩ := (HA.out.below HB1.out).at_ HS.out
      have HC1 := Lib.hid hd1
      have HC2 := Lib.hid hd2
      clear hd1 hd2
      go_wp2_with fail
      refine wp_region_held_drew (S := fun W => Below w1.heap.size w1 W) (by kernel_rfl) (HBI.out.drew) (fun hS0 => ?_)
      refine wpAnyH_take (i := 0) (v := ?_) rfl (by kernel_rfl) (by kernel_rfl) (by kernel_rfl) (fun _ _ _ h => h) (Or.inl ⟨by kernel_rfl, ?hy⟩) hS0 ?rest
      case hy => (intro W hSw; clear hSw; go_simp; try with_reducible rfl)
      case rest =>
      refine wpAnyH_take (i := 1) (v := ?_) rfl (by kernel_rfl) (by kernel_rfl) (by kernel_rfl) (fun _ _ _ h => h) (Or.inl ⟨by kernel_rfl, ?hy⟩) hS0 ?rest
      case hy => (intro W hSw; clear hSw; go_simp; try with_reducible rfl)
      case rest =>
      refine wpAnyH_take (i := 2) (v := ?_) rfl (by kernel_rfl) (by kernel_rfl) (by kernel_rfl) (fun _ _ _ h => h) (Or.inl ⟨by kernel_rfl, ?hy⟩) hS0 ?rest
      case hy => (intro W hSw; clear hSw; go_simp; try with_reducible rfl)
      case rest =>
      refine wpAnyH_take (i := 3) (v := ?_) rfl (by kernel_rfl) (by kernel_rfl) (by kernel_rfl) (fun _ _ _ h => h) (Or.inl ⟨by kernel_rfl, ?hy⟩) hS0 ?rest
      case hy => (intro W hSw; clear hSw; go_simp; try with_reducible rfl)
      case rest =>
      refine wpAnyH_take (i := 4) (v := ?_) rfl (by kernel_rfl) (by kernel_rfl) (by kernel_rfl) (fun _ _ _ h => h) (Or.inl ⟨by kernel_rfl, ?hy⟩) hS0 ?rest
      case hy => (intro W hSw; clear hSw; go_simp; try with_reducible rfl)
      case rest =>
      refine wpAnyH_take (i := 5) (v := ?_) rfl (by kernel_rfl) (by kernel_rfl) (by kernel_rfl) (fun _ _ _ h => h) (Or.inl ⟨by kernel_rfl, ?hy⟩) hS0 ?rest
      case hy => (intro W hSw; have q := kept_cell hSw HC1.out; have ql := lt_of_cell q; clear hSw; go_simp; try with_reducible rfl)
      case rest =>
      refine wpAnyH_take (i := 6) (v := ?_) rfl (by kernel_rfl) (by kernel_rfl) (by kernel_rfl) (fun _ _ _ h => h) (Or.inl ⟨by kernel_rfl, ?hy⟩) hS0 ?rest
      case hy => (intro W hSw; clear hSw; go_simp; try with_reducible rfl)
      case rest =>
      refine wpAnyH_take (i := 7) (v := ?_) rfl (by kernel_rfl) (by kernel_rfl) (by kernel_rfl) (fun _ _ _ h => h) (Or.inl ⟨by kernel_rfl, ?hy⟩) hS0 ?rest
      case hy => (intro W hSw; clear hSw; go_simp; try with_reducible rfl)
      case rest =>
      refine wpAnyH_take (i := 8) (v := ?_) rfl (by kernel_rfl) (by kernel_rfl) (by kernel_rfl) (fun _ _ _ h => h) (Or.inl ⟨by kernel_rfl, ?hy⟩) hS0 ?rest
      case hy => (intro W hSw; clear hSw; go_simp; try with_reducible rfl)
      case rest =>
      refine wpAnyH_take (i := 9) (v := ?_) rfl (by kernel_rfl) (by kernel_rfl) (by kernel_rfl) (fun _ _ _ h => h) (Or.inl ⟨by kernel_rfl, ?hy⟩) hS0 ?rest
      case hy => (intro W hSw; clear hSw; go_simp; try with_reducible rfl)
      case rest =>
      refine wpAnyH_take (i := 10) (v := ?_) rfl (by kernel_rfl) (by kernel_rfl) (by kernel_rfl) (fun _ _ _ h => h) (Or.inl ⟨by kernel_rfl, ?hy⟩) hS0 ?rest
      case hy => (intro W hSw; have q := kept_cell hSw HC2.out; have ql := lt_of_cell q; clear hSw; go_simp; try with_reducible rfl)
      case rest =>
      refine wpAnyH_take (i := 11) (v := ?_) rfl (by kernel_rfl) (by kernel_rfl) (by kernel_rfl) (fun _ _ _ h => h) (Or.inl ⟨by kernel_rfl, ?hy⟩) hS0 ?rest
      case hy => (intro W hSw; clear hSw; go_simp; try with_reducible rfl)
      case rest =>
      refine wpAnyH_ready (rs := [12]) (by kernel_rfl) (by simp) ?_
      refine AllReadyH.cons rfl (fun K hK => ?_) (AllReadyH.nil)
      go_simp
      refine hK.out _ _ (below_alloc hS0 _) (fun hS1 => ?_)
      clear hK K
      have HO3 : Hid ((wr.drew.alloc (.cells #[.int .i64 s.1, .int .i64 s.2] 74)).ownsRow w1.heap.size 74 2 u7 j (flat2 (l.take j))) := Lib.hid (row_below (row_below HOJ.out (Below.drew (Below.refl _ _))) (below_alloc (Below.refl _ _) _))
      refine wpAnyH_ready (rs := [13]) (by kernel_rfl) (by simp) ?_
      refine AllReadyH.cons rfl (fun K hK => ?_) (AllReadyH.nil)
      refine step_app (wr.drew.alloc (.cells #[.int .i64 s.1, .int .i64 s.2] 74)) (by kernel_rfl) (.tmp 58) (.tmp 70) 75 75 rfl w1.heap.size 74 74 i2 _ 2 16 Tryz.underlying75 Tryz.underlying75 HI2.out.1 HI2.out.2.1 HI2.out.2.2.1 HI2.out.2.2.2 rfl (by omega) u7 j _ (by kernel_rfl) HO3.out (some ⟨wr.heap.size, 0, none⟩) 1 1 [.int .i64 s.1, .int .i64 s.2] (by kernel_rfl) (Rd_new wr.drew #[.int .i64 s.1, .int .i64 s.2] _ 2 1 _ rfl rfl) (by simp [Value.oneCell']) (by simp only [maxLen]; omega) (by omega) (by have := HBI.out.size; simp; omega) ?_
      intro v4 w4 hown4 hg4
      have HB4 : Hid (Below w1.heap.size w1 w4) := Lib.hid ((below_alloc (HBI.out.drew) _).grown hg4 (by have := HBI.out.size; simp; omega) (fun j hj => (HO3.out.lt j hj).1))
      have HO4 := Lib.hid hown4
      clear hown4 hg4
      refine hK.out _ _ HB4.out (fun hS2 => ?_)
      clear hK K
      refine wpAnyH_take (i := 14) (v := ?_) rfl (by kernel_rfl) (by kernel_rfl) (by kernel_rfl) (fun _ _ _ h => h) (Or.inl ⟨by kernel_rfl, ?hy⟩) hS2 ?rest
      case hy => (intro W hSw; clear hSw; go_simp; try with_reducible rfl)
      case rest =>
      refine wpAnyH_done (by kernel_rfl) ?_ _
      clear hS0 hS1 hS2
      go_wp2
      go_roundw
      case rel => exact ⟨j + 1, j + 1, by omega, by omega, by go_num, HB4.out, HND2.out, by rw [take_snoc _ _ _ HS.out, flat2_append]; exact HO4.out⟩
      case measure => simp [intOf]; omega
    case neg =>
      obtain rfl : q = n := by have := HQ.out; omega
      go_wp2
      go_roundw
      case rel => exact ⟨j + 1, q, by omega, by omega, by go_num, HBI.out, HND2.out, HOJ.out⟩
      case measure => simp [intOf]; omega
  case neg =>
  obtain rfl : i = l.length := by omega
  rw [List.take_length] at HND
  by_cases hfew : l.length < n
  case pos =>
    have HJ := Lib.hid (joinF_few l n hn1 hn16 HVA.out HND.out (by omega))
    go_wp2
    go_ret2
    rw [HJ.out]
    exact ⟨rfl, below_trans HB1.out HB.out⟩
  case neg =>
  have hnl : n ≤ l.length := by omega
  obtain rfl : q = n := by have := HQ.out; omega
  clear HQ
  obtain ⟨A3, c3, rfl, hc3, hm3, hrd3⟩ := Rd.of_own HO.out
  have eql : (l.take q).length = q := List.length_take_of_le hnl
  have hP3 : Prs wr A3 (l.take q) := by
    unfold Prs; rw [eql]; exact hrd3
  have hgood : Good (l.take q) := (good_of l HVA.out HND.out).take q
  have hcall : ∀ (x : Int), elemB x = true → ∀ W, Below wr.heap.size wr W → Calls Tryz.prog 77 #[.slice A3 q c3, .int .i64 x] W fun e w' =>
      e = .returned (.tuple #[.int .i64 (nv x (l.take q) (q - 1) 0), .int .i64 0]) ∧ Below W.heap.size W w' := by
    intro x hx W hW
    have h := rinterp_any A3 c3 (l.take q) x W (hP3.below hW) (by rw [eql]; omega) (by rw [eql]; omega) hx hgood
    rw [eql] at h
    exact h
  have HCALL := Lib.hid hcall
  have HEL : Hid (∀ s, s ∈ l → elemB s.1 = true) := Lib.hid (fun s hs => by
    have := (validB_iff s).1 (List.all_eq_true.1 HVA.out s hs)
    rw [elemB_iff]; omega)
  have HPW := Lib.hid ((HA.out.below HB1.out).below HB.out)
  have HB0 := Lib.hid (below_trans HB1.out HB.out)
  clear hP3 hrd3 hcall hgood eql hc3 hm3 HO
  go_wp2_with fail
  obtain ⟨w5, rfl⟩ : ∃ w5 : World, w5 = wr := ⟨_, rfl⟩
  go_loopw [10, 11, 12] (fun u10 _ _ wr => ∃ r : Nat, r ≤ l.length - q ∧ u10 = .int .i64 ((q + r : Nat) : Int) ∧ Below w5.heap.size w5 wr ∧ ∀ s, s ∈ (l.drop q).take r → nv s.1 (l.take q) (q - 1) 0 = s.2) (fun u10 _ _ _ => l.length - (intOf u10).toNat)
  case atStart => exact ⟨0, Nat.zero_le _, rfl, Below.refl _ _, by simp⟩
  case round =>
  obtain ⟨r, hr, rfl, hB5, hok⟩ := hrel
  have HB5 := Lib.hid hB5; clear hB5
  have HOK := Lib.hid hok; clear hok
  by_cases hrl : q + r < l.length
  case pos =>
    obtain ⟨s, hs⟩ := get_some l (q + r) hrl
    have hsd : (l.drop q)[r]? = some s := by rw [List.getElem?_drop]; exact hs
    obtain ⟨b, off, rfl, hc1, hc2⟩ := (HPW.out.below HB5.out).at_ hs
    have hcl := lt_of_cell hc1
    have HCA := Lib.hid (HCALL.out s.1 (HEL.out s (List.mem_of_getElem? hs)) wr HB5.out)
    have HC2 : Hid (∀ W, Below wr.heap.size wr W → W.cell? ⟨b, off + (q + r) * 2 + 1, none⟩ = some (.int .i64 s.2)) := Lib.hid (fun W hW => kept_cell hW hc2)
    have HSD := Lib.hid hsd
    clear hs hsd hc2
    obtain ⟨z, hz⟩ : ∃ z : Nat, z = q + r := ⟨_, rfl⟩
    rw [← hz] at hc1 HC2 hrl ⊢
    have HZ := Lib.hid hz
    clear hz
    go_wp2_with fail
    refine HCA.out.mono ?_
    rintro e w6 ⟨rfl, hb6⟩
    have hc2 := HC2.out w6 hb6
    have hcl2 := lt_of_cell hc2
    have HB7 := Lib.hid (below_trans HB5.out hb6)
    clear hb6 hc1
    by_cases hy : nv s.1 (l.take q) (q - 1) 0 = s.2
    case pos =>
      have HY := Lib.hid hy
      have hy' : (nv s.1 (l.take q) (q - 1) 0 == s.2) = true := by simpa using hy
      have hy'' : (nv s.1 (l.take q) (q - 1) 0 != s.2) = false := by simpa using hy
      clear hy
      go_wp2
      go_roundw
      case rel =>
        refine ⟨r + 1, by have := HZ.out; omega, by rw [HZ.out]; go_num, HB7.out, fun t ht => ?_⟩
        rw [take_snoc _ r s HSD.out] at ht
        rcases List.mem_append.1 ht with ht | ht
        · exact HOK.out t ht
        · rw [List.mem_singleton.1 ht]; exact HY.out
      case measure => simp [intOf]; omega
    case neg =>
      have hj := joinF_wrong l q (by omega) (by omega) HVA.out HND.out hnl r s HSD.out hy
      have HJ := Lib.hid hj; clear hj
      have hy' : (nv s.1 (l.take q) (q - 1) 0 == s.2) = false := by simpa using hy
      have hy'' : (nv s.1 (l.take q) (q - 1) 0 != s.2) = true := by simpa using hy
      clear hy
      go_wp2
      go_ret2
      rw [HJ.out]
      exact ⟨rfl, below_trans HB0.out HB7.out⟩
  case neg =>
    have hall : ∀ s, s ∈ l.drop q → nv s.1 (l.take q) (q - 1) 0 = s.2 := by
      have := HOK.out
      rwa [List.take_of_length_le (by rw [List.length_drop]; omega)] at this
    have hj := joinF_ok l q (by omega) (by omega) HVA.out HND.out hnl hall
    have HJ := Lib.hid hj; clear hj hall
    have hge : ¬ ((q + r : Nat) : Int) < (l.length : Int) := by omega
    have HC0 := Lib.hid (HCALL.out 0 rfl wr HB5.out)
    go_wp2_with fail
    refine HC0.out.mono ?_
    rintro e w6 ⟨rfl, hb6⟩
    have HB6 := Lib.hid hb6; clear hb6
    go_wp2
    go_ret2
    rw [HJ.out]
    exact ⟨rfl, below_trans HB0.out (below_trans HB5.out HB6.out)⟩
end

section
open Go.RowKit

/-- A vault of the reference in memory: its block g; the row of the offered shares in a block from base on. -/
def RV (w : World) (base g : Nat) (need total : Nat) (root : ByteArray) (S : List (Int × Int)) (opn : Bool) : Prop :=
  ∃ v, Blk w g 86 #[.int .i64 need, .string root, .int .i64 total, v, .bool opn] ∧ w.ownsRow base 37 2 v S.length (flat2 S) ∧ v.ownBlock ≠ some g ∧ base ≤ g
theorem RV.below {w w' : World} {base g need total : Nat} {root : ByteArray} {S : List (Int × Int)} {opn : Bool} (h : RV w base g need total root S opn) (hb : Below w.heap.size w w') : RV w' base g need total root S opn := by
  obtain ⟨v, h1, h2, h3, h4⟩ := h
  exact ⟨v, (hb.block g h1.lt).trans h1, row_below h2 hb, h3, h4⟩

set_option maxHeartbeats 4000000 in
theorem rnew_ok (need total : Nat) (root : ByteArray) (w : World) (hr : root.size ≤ 1000000000) (h1 : 1 ≤ need) (h2 : need ≤ total) (h3 : total ≤ 16) (hd : isD root = true) :
    Calls Tryz.prog 20 #[.int .i64 need, .string root, .int .i64 total] w fun e w' => ∃ g, e = .returned (.tuple #[.pointer (some ⟨g, 0, none⟩), .int .i64 0]) ∧ RV w' w.heap.size g need total root [] false ∧ Below w.heap.size w w' := by
  have HI := Lib.hid (ris root hr w)
  rw [hd] at HI
  have d1 : decide ((total : Int) < 1) = false := decide_eq_false (by omega)
  have d2 : decide (16 < (total : Int)) = false := decide_eq_false (by omega)
  have d3 : decide ((need : Int) < 1) = false := decide_eq_false (by omega)
  have d4 : decide (total < need) = false := decide_eq_false (by omega)
  clear hd
  go_enter Tryz.func20, Tryz.ntmps20
  go_wp2_with fail
  refine HI.out.mono ?_
  rintro e _ ⟨rfl, rfl⟩
  go_wp2
  go_ret2
  exact ⟨_, rfl, ⟨_, Blk.new _ _ _ _ rfl, ⟨rfl, .inl ⟨rfl, rfl⟩⟩, by simp [Value.ownBlock], Nat.le_refl _⟩, below_alloc (Below.refl _ _) _⟩

set_option maxHeartbeats 4000000 in
theorem rnew_bad (need total : Int) (root : ByteArray) (w : World) (hr : root.size ≤ 1000000000) (h : newOk need total root = false) :
    Calls Tryz.prog 20 #[.int .i64 need, .string root, .int .i64 total] w fun e w' => e = .returned (.tuple #[.pointer none, .int .i64 1]) ∧ Below w.heap.size w w' := by
  have HI := Lib.hid (ris root hr w)
  by_cases h1 : total < 1
  · have d1 : decide (total < 1) = true := decide_eq_true h1
    go_enter Tryz.func20, Tryz.ntmps20
    go_wp2
    go_ret2
    exact ⟨rfl, Below.refl _ _⟩
  have d1 : decide (total < 1) = false := decide_eq_false h1
  by_cases h2 : 16 < total
  · have d2 : decide (16 < total) = true := decide_eq_true h2
    go_enter Tryz.func20, Tryz.ntmps20
    go_wp2
    go_ret2
    exact ⟨rfl, Below.refl _ _⟩
  have d2 : decide (16 < total) = false := decide_eq_false h2
  by_cases h3 : need < 1
  · have d3 : decide (need < 1) = true := decide_eq_true h3
    go_enter Tryz.func20, Tryz.ntmps20
    go_wp2
    go_ret2
    exact ⟨rfl, Below.refl _ _⟩
  have d3 : decide (need < 1) = false := decide_eq_false h3
  by_cases h4 : total < need
  · have d4 : decide (total < need) = true := decide_eq_true h4
    go_enter Tryz.func20, Tryz.ntmps20
    go_wp2
    go_ret2
    exact ⟨rfl, Below.refl _ _⟩
  have d4 : decide (total < need) = false := decide_eq_false h4
  have hd : isD root = false := by
    have := h
    unfold newOk at this
    rw [decide_eq_true (by omega), Bool.true_and] at this
    exact this
  rw [hd] at HI
  clear hd h
  go_enter Tryz.func20, Tryz.ntmps20
  go_wp2_with fail
  refine HI.out.mono ?_
  rintro e _ ⟨rfl, rfl⟩
  go_wp2
  go_ret2
  exact ⟨rfl, Below.refl _ _⟩
theorem row_far {w : World} {B e size n : Nat} {v : Value} {xs : List Value} (h : w.ownsRow B e size v n xs) (p : Addr) (u : Value) (hne : v.ownBlock ≠ some p.block) : (w.setCell p u).ownsRow B e size v n xs := by
  refine ⟨h.1, ?_⟩
  rcases h.2 with hn | ⟨gg, cap, cur, rfl, hg, hgg, rest⟩
  · exact .inl hn
  · exact .inr ⟨gg, cap, cur, rfl, hg, (Below.heap_setCell w p u gg (fun e => hne (by simp [Value.ownBlock, e]))).trans hgg, rest⟩
theorem own_ne_blk {w : World} {B e size n : Nat} {v : Value} {xs : List Value} (h : w.ownsRow B e size v n xs) {g T : Nat} {cs : Array Value} (hb : Blk w g T cs) (hne : e ≠ T) : v.ownBlock ≠ some g := by
  intro ho
  rcases h.2 with ⟨rfl, _⟩ | ⟨gg, cap, cur, rfl, _, hgg, _⟩
  · cases ho
  · have e1 : gg = g := by simpa [Value.ownBlock] using ho
    subst e1
    unfold Blk at hb
    rw [hgg] at hb
    injection hb with hb
    injection hb with _ h2 _
    exact hne h2
/-- Blocks of other types are kept. -/
def KP (w w' : World) : Prop := ∀ (b : Nat) (t : TypeId) (cs : Array Value), Blk w b t cs → t ≠ 86 → t ≠ 37 → Blk w' b t cs
theorem KP.of_below {w w' : World} (h : Below w.heap.size w w') : KP w w' := fun b _ _ hb _ _ => (h.block b hb.lt).trans hb
theorem Blk.other {w : World} {b g : Nat} {t u : TypeId} {cs ds : Array Value} (h : Blk w b t cs) (hg : Blk w g u ds) (hne : t ≠ u) : b ≠ g := by
  intro e
  subst e
  unfold Blk at h hg
  rw [h] at hg
  injection hg with hg
  injection hg with _ h2 _
  exact hne h2
theorem fnd_at {S : List (Int × Int)} {k : Nat} {t : Int × Int} {y : Int} (h : S[k]? = some t) (he : t.1 = y) : (fnd S y).isSome = true := by
  cases hf : fnd S y with
  | some u => rfl
  | none => exact absurd (List.mem_map.2 ⟨t, List.mem_of_getElem? h, he⟩) (fnd_none.1 hf)
theorem fnd_no {S : List (Int × Int)} {y : Int} (h : ∀ (k : Nat) (t : Int × Int), k < S.length → S[k]? = some t → t.1 ≠ y) : fnd S y = none := by
  rw [fnd_none]
  intro hm
  obtain ⟨t, ht, he⟩ := List.mem_map.1 hm
  obtain ⟨k, hk⟩ := List.getElem?_of_mem ht
  exact h k t (List.getElem?_eq_some_iff.1 hk).1 hk he

set_option maxRecDepth 100000 in
set_option maxHeartbeats 32000000 in
theorem roffer_any (base g need total : Nat) (root : ByteArray) (S : List (Int × Int)) (opn : Bool) (s : Int × Int) (C : Option Addr) (f : Nat) (p : List ByteArray) (w : World) (hV : RV w base g need total root S opn) (hn : S.length ≤ 1000) (hP : Strs w C p) (hbig : p.length ≤ 1000000) (hcap : p.length ≤ f) (hsm : sm p) :
    Calls Tryz.prog 26 #[.pointer (some ⟨g, 0, none⟩), .agg #[.int .i64 s.1, .int .i64 s.2], .slice C p.length f] w fun e w' =>
      e = .returned (.int .i64 (offE root total S opn s p)) ∧ RV w' base g need total root (offS root total S opn s p) opn ∧ Below base w w' ∧ KP w w' := by
  obtain ⟨w0, hw0⟩ : ∃ w0, w.alloc (.cells #[.int .i64 s.1, .int .i64 s.2] 37) = w0 := ⟨_, rfl⟩
  have HB0 : Hid (Below w.heap.size w w0) := Lib.hid (by rw [← hw0]; exact below_alloc (Below.refl _ _) _)
  have HK : Hid (∀ W, Below w0.heap.size w0 W → W.cell? ⟨w.heap.size, 0, none⟩ = some (.int .i64 s.1) ∧ W.cell? ⟨w.heap.size, 1, none⟩ = some (.int .i64 s.2)) := Lib.hid (fun W hW => by
    have hb : Blk w0 w.heap.size 37 #[.int .i64 s.1, .int .i64 s.2] := by rw [← hw0]; exact Blk.new w _ _ _ rfl
    exact ⟨kept_cell hW (hb.of_cell rfl), kept_cell hW (hb.of_cell rfl)⟩)
  have HV : Hid (∀ W, Below w0.heap.size w0 W → RV W base g need total root S opn) := Lib.hid (fun W hW => (hV.below HB0.out).below hW)
  have HH : Hid (∀ W, Below w0.heap.size w0 W → _) := Lib.hid (fun W hW => r7check_any root total s C f p W ((hP.below HB0.out).below hW) hbig hcap hsm)
  have hbs : base ≤ w.heap.size := by
    obtain ⟨v, h1, _, _, h4⟩ := hV
    have := h1.lt
    omega
  have HBS : Hid (∀ W, Below w0.heap.size w0 W → Below base w W ∧ KP w W) := Lib.hid (fun W hW => ⟨(below_trans HB0.out hW).mono hbs, KP.of_below (below_trans HB0.out hW)⟩)
  obtain ⟨v, hv1, hv2, hv3, hv4⟩ := (hV.below HB0.out : RV w0 base g need total root S opn)
  obtain ⟨AS, cS, rfl, -, -, hrS⟩ := Rd.of_own hv2
  have HO : Hid (∀ W, Below w0.heap.size w0 W → W.ownsRow base 37 2 (.slice AS S.length cS) S.length (flat2 S)) := Lib.hid (fun W hW => row_below hv2 hW)
  have HB4 : Hid (∀ W, Below w0.heap.size w0 W → Blk W g 86 #[.int .i64 need, .string root, .int .i64 total, .slice AS S.length cS, .bool opn]) := Lib.hid (fun W hW => (hW.block g hv1.lt).trans hv1)
  have HN : Hid ((Value.slice AS S.length cS).ownBlock ≠ some g ∧ base ≤ g) := Lib.hid ⟨hv3, hv4⟩
  have HPS : Hid (∀ W, Below w0.heap.size w0 W → Prs W AS S) := Lib.hid (fun W hW => Prs.below hrS hW)
  have HW0 := Lib.hid hw0
  have HGC : Hid (∀ W, Below w0.heap.size w0 W → W.cell? ⟨g, 0, none⟩ = some (.int .i64 need) ∧ W.cell? ⟨g, 1, none⟩ = some (.string root) ∧ W.cell? ⟨g, 2, none⟩ = some (.int .i64 total) ∧ W.cell? ⟨g, 3, none⟩ = some (.slice AS S.length cS) ∧ W.cell? ⟨g, 4, none⟩ = some (.bool opn)) := Lib.hid (fun W hW => by
    have hb := HB4.out W hW
    exact ⟨hb.of_cell rfl, hb.of_cell rfl, hb.of_cell rfl, hb.of_cell rfl, hb.of_cell rfl⟩)
  obtain ⟨er, her⟩ : ∃ er, offE root total S opn s p = er := ⟨_, rfl⟩
  obtain ⟨S', hS'⟩ : ∃ S', offS root total S opn s p = S' := ⟨_, rfl⟩
  have HER := Lib.hid her
  have HS' := Lib.hid hS'
  rw [her, hS']
  obtain ⟨ck, hck⟩ : ∃ ck, shChk root total s p = ck := ⟨_, rfl⟩
  have HCK := Lib.hid hck
  rw [hck] at HH
  obtain ⟨i1, hj0, hy0, hy1, hy2⟩ := info_parts info_share
  have HI := Lib.hid (And.intro hj0 (And.intro hy0 (And.intro hy1 hy2)))
  clear hw0 hV hP hsm her hS' hck hv1 hv2 hv3 hv4 hrS hj0 hy0 hy1 hy2
  obtain ⟨c0, c1, c2, c3, c4⟩ := HGC.out w0 (Below.refl _ _)
  have cl := lt_of_cell c0
  cases opn with
  | true =>
    have he : er = 11 := by rw [← HER.out]; rfl
    have hs : S' = S := by rw [← HS'.out]; unfold offS; rw [HER.out, he]; rfl
    subst he
    subst hs
    go_enter Tryz.func26, Tryz.ntmps26
    go_upto_region 1 with (fail)
    rw [HW0.out]
    go_wp2
    go_ret
    exact ⟨rfl, HV.out _ (Below.refl _ _), HBS.out _ (Below.refl _ _)⟩
  | false =>
  cases ck with
  | false =>
    have he : er = 24 := by rw [← HER.out]; unfold offE; rw [HCK.out]; rfl
    have hs : S' = S := by rw [← HS'.out]; unfold offS; rw [HER.out, he]; rfl
    subst he
    subst hs
    go_enter Tryz.func26, Tryz.ntmps26
    go_upto_region 1 with (fail)
    rw [HW0.out]
    go_wp2_with fail
    clear c0 c1 c2 c3 c4 cl
    refine wp_region_belowC (by kernel_rfl) (by kernel_rfl) (fun WQ HQS HQN => ?_)
    refine HQS.go (fun K hK => ?_)
    go_simp
    apply Exists.intro
    refine ⟨fun W hW => ?_, hK _ ?_⟩
    · (try go_simp)
      exact rfl
    clear hK K
    refine HQS.go (fun K hK => ?_)
    go_simp
    apply Exists.intro
    refine ⟨fun W hW => ?_, hK _ ?_⟩
    · (try go_simp)
      exact rfl
    clear hK K
    refine HQS.go (fun K hK => ?_)
    go_simp
    apply Exists.intro
    refine ⟨fun W hW => ?_, hK _ ?_⟩
    · (try go_simp)
      exact rfl
    clear hK K
    refine HQS.go (fun K hK => ?_)
    go_simp
    apply Exists.intro
    refine ⟨fun W hW => ?_, hK _ ?_⟩
    · obtain ⟨c0, c1, c2, c3, c4⟩ := HGC.out W hW
      have cl := lt_of_cell c0
      go_simp
      exact rfl
    clear hK K
    refine HQS.go (fun K hK => ?_)
    go_simp
    apply Exists.intro
    refine ⟨fun W hW => ?_, hK _ ?_⟩
    · (try go_simp)
      exact rfl
    clear hK K
    refine HQS.go (fun K hK => ?_)
    go_simp
    apply Exists.intro
    refine ⟨fun W hW => ?_, hK _ ?_⟩
    · (try go_simp)
      exact rfl
    clear hK K
    refine HQS.go (fun K hK => ?_)
    go_simp
    apply Exists.intro
    refine ⟨fun W hW => ?_, hK _ ?_⟩
    · (try go_simp)
      exact rfl
    clear hK K
    refine HQS.go (fun K hK => ?_)
    go_simp
    apply Exists.intro
    refine ⟨fun W hW => ?_, hK _ ?_⟩
    · obtain ⟨c0, c1, c2, c3, c4⟩ := HGC.out W hW
      have cl := lt_of_cell c0
      go_simp
      exact rfl
    clear hK K
    refine HQS.go (fun K hK => ?_)
    go_simp
    apply Exists.intro
    refine ⟨fun W hW => ?_, hK _ ?_⟩
    · obtain ⟨q0, q1⟩ := HK.out W hW
      have ql := lt_of_cell q0
      go_simp
      exact rfl
    clear hK K
    refine HQS.go (fun K hK => ?_)
    go_simp
    apply Exists.intro
    refine ⟨fun W hW => ?_, hK _ ?_⟩
    · (try go_simp)
      exact rfl
    clear hK K
    refine HQS.go (fun K hK => ?_)
    go_simp
    apply Exists.intro
    refine ⟨fun W hW => ?_, hK _ ?_⟩
    · exact (HH.out W hW).mono fun _ _ ⟨he, hb⟩ => ⟨he, below_trans hW hb⟩
    clear hK K
    refine HQS.go (fun K hK => ?_)
    go_simp
    apply Exists.intro
    refine ⟨fun W hW => ?_, hK _ ?_⟩
    · (try go_simp)
      exact rfl
    clear hK K
    refine HQN.go ?_
    intro w2 hW
    have HB2 := Lib.hid hW
    clear hW
    go_wp2
    go_ret
    exact ⟨rfl, HV.out _ HB2.out, HBS.out _ HB2.out⟩
  | true =>
  obtain ⟨ff, hff⟩ : ∃ ff, (fnd S s.1).isSome = ff := ⟨_, rfl⟩
  have HFF := Lib.hid hff
  clear hff
  go_enter Tryz.func26, Tryz.ntmps26
  go_upto_region 1 with (fail)
  rw [HW0.out]
  go_wp2_with fail
  clear c0 c1 c2 c3 c4 cl
  refine wp_region_belowC (by kernel_rfl) (by kernel_rfl) (fun WQ HQS HQN => ?_)
  refine HQS.go (fun K hK => ?_)
  go_simp
  apply Exists.intro
  refine ⟨fun W hW => ?_, hK _ ?_⟩
  · (try go_simp)
    exact rfl
  clear hK K
  refine HQS.go (fun K hK => ?_)
  go_simp
  apply Exists.intro
  refine ⟨fun W hW => ?_, hK _ ?_⟩
  · (try go_simp)
    exact rfl
  clear hK K
  refine HQS.go (fun K hK => ?_)
  go_simp
  apply Exists.intro
  refine ⟨fun W hW => ?_, hK _ ?_⟩
  · (try go_simp)
    exact rfl
  clear hK K
  refine HQS.go (fun K hK => ?_)
  go_simp
  apply Exists.intro
  refine ⟨fun W hW => ?_, hK _ ?_⟩
  · obtain ⟨c0, c1, c2, c3, c4⟩ := HGC.out W hW
    have cl := lt_of_cell c0
    go_simp
    exact rfl
  clear hK K
  refine HQS.go (fun K hK => ?_)
  go_simp
  apply Exists.intro
  refine ⟨fun W hW => ?_, hK _ ?_⟩
  · (try go_simp)
    exact rfl
  clear hK K
  refine HQS.go (fun K hK => ?_)
  go_simp
  apply Exists.intro
  refine ⟨fun W hW => ?_, hK _ ?_⟩
  · (try go_simp)
    exact rfl
  clear hK K
  refine HQS.go (fun K hK => ?_)
  go_simp
  apply Exists.intro
  refine ⟨fun W hW => ?_, hK _ ?_⟩
  · (try go_simp)
    exact rfl
  clear hK K
  refine HQS.go (fun K hK => ?_)
  go_simp
  apply Exists.intro
  refine ⟨fun W hW => ?_, hK _ ?_⟩
  · obtain ⟨c0, c1, c2, c3, c4⟩ := HGC.out W hW
    have cl := lt_of_cell c0
    go_simp
    exact rfl
  clear hK K
  refine HQS.go (fun K hK => ?_)
  go_simp
  apply Exists.intro
  refine ⟨fun W hW => ?_, hK _ ?_⟩
  · obtain ⟨q0, q1⟩ := HK.out W hW
    have ql := lt_of_cell q0
    go_simp
    exact rfl
  clear hK K
  refine HQS.go (fun K hK => ?_)
  go_simp
  apply Exists.intro
  refine ⟨fun W hW => ?_, hK _ ?_⟩
  · (try go_simp)
    exact rfl
  clear hK K
  refine HQS.go (fun K hK => ?_)
  go_simp
  apply Exists.intro
  refine ⟨fun W hW => ?_, hK _ ?_⟩
  · exact (HH.out W hW).mono fun _ _ ⟨he, hb⟩ => ⟨he, below_trans hW hb⟩
  clear hK K
  refine HQS.go (fun K hK => ?_)
  go_simp
  apply Exists.intro
  refine ⟨fun W hW => ?_, hK _ ?_⟩
  · (try go_simp)
    exact rfl
  clear hK K
  refine HQN.go ?_
  intro w2 hW
  have HB2 := Lib.hid hW
  clear hW
  go_wp2_with fail
  go_loopw [7] (fun u7 wr => ∃ k : Nat, k ≤ S.length ∧ u7 = .int .i64 k ∧ Below w0.heap.size w0 wr ∧ ∀ (j : Nat) (t : Int × Int), j < k → S[j]? = some t → t.1 ≠ s.1) (fun u7 _ => S.length - (intOf u7).toNat)
  case atStart => exact ⟨0, Nat.zero_le _, rfl, HB2.out, fun j t h => absurd h (by omega)⟩
  case round =>
  obtain ⟨k, hk, rfl, hb, hne⟩ := hrel
  have HB := Lib.hid hb
  have HNE := Lib.hid hne
  clear hb hne
  obtain ⟨c0, c1, c2, c3, c4⟩ := HGC.out wr HB.out
  have cl := lt_of_cell c0
  by_cases hlt : k < S.length
  case pos =>
    obtain ⟨t, ht⟩ := get_some S k hlt
    obtain ⟨bS, oS, rfl, -, -⟩ := (HPS.out wr HB.out).at_ ht
    have HC : Hid (∀ W, Below wr.heap.size wr W → W.cell? ⟨bS, oS + k * 2, none⟩ = some (.int .i64 t.1)) := Lib.hid (fun W hW => by
      obtain ⟨b', o', e, q1, q2⟩ := (HPS.out W (below_trans HB.out hW)).at_ ht
      cases e
      exact q1)
    have HTK := Lib.hid ht
    have hki : (k : Int) < (S.length : Int) := by omega
    clear ht
    by_cases hts : t.1 = s.1
    case pos =>
      have e1 : (t.1 == s.1) = true := by simp [hts]
      have hf1 : ff = true := by rw [← HFF.out]; exact fnd_at HTK.out hts
      have he : er = 8 := by rw [← HER.out]; unfold offE; rw [HCK.out, HFF.out, hf1]; rfl
      have hs : S' = S := by rw [← HS'.out]; unfold offS; rw [HER.out, he]; rfl
      subst he
      subst hs
      clear hts hf1
      go_wp2_with fail
      clear c0 c1 c2 c3 c4 cl
      refine wp_region_belowC (by kernel_rfl) (by kernel_rfl) (fun WQ HQS HQN => ?_)
      refine HQS.go (fun K hK => ?_)
      go_simp
      apply Exists.intro
      refine ⟨fun W hW => ?_, hK _ ?_⟩
      · (try go_simp)
        exact rfl
      clear hK K
      refine HQS.go (fun K hK => ?_)
      go_simp
      apply Exists.intro
      refine ⟨fun W hW => ?_, hK _ ?_⟩
      · (try go_simp)
        exact rfl
      clear hK K
      refine HQS.go (fun K hK => ?_)
      go_simp
      apply Exists.intro
      refine ⟨fun W hW => ?_, hK _ ?_⟩
      · (try go_simp)
        exact rfl
      clear hK K
      refine HQS.go (fun K hK => ?_)
      go_simp
      apply Exists.intro
      refine ⟨fun W hW => ?_, hK _ ?_⟩
      · obtain ⟨c0, c1, c2, c3, c4⟩ := HGC.out W (below_trans HB.out hW)
        have cl := lt_of_cell c0
        go_simp
        exact rfl
      clear hK K
      refine HQS.go (fun K hK => ?_)
      go_simp
      apply Exists.intro
      refine ⟨fun W hW => ?_, hK _ ?_⟩
      · (try go_simp)
        exact rfl
      clear hK K
      refine HQS.go (fun K hK => ?_)
      go_simp
      apply Exists.intro
      refine ⟨fun W hW => ?_, hK _ ?_⟩
      · (try go_simp)
        exact rfl
      clear hK K
      refine HQS.go (fun K hK => ?_)
      go_simp
      apply Exists.intro
      refine ⟨fun W hW => ?_, hK _ ?_⟩
      · (try go_simp)
        exact rfl
      clear hK K
      refine HQS.go (fun K hK => ?_)
      go_simp
      apply Exists.intro
      refine ⟨fun W hW => ?_, hK _ ?_⟩
      · have q := HC.out W hW
        have ql := lt_of_cell q
        go_simp
        exact rfl
      clear hK K
      refine HQS.go (fun K hK => ?_)
      go_simp
      apply Exists.intro
      refine ⟨fun W hW => ?_, hK _ ?_⟩
      · (try go_simp)
        exact rfl
      clear hK K
      refine HQS.go (fun K hK => ?_)
      go_simp
      apply Exists.intro
      refine ⟨fun W hW => ?_, hK _ ?_⟩
      · obtain ⟨q0, q1⟩ := HK.out W (below_trans HB.out hW)
        have ql := lt_of_cell q0
        go_simp
        exact rfl
      clear hK K
      refine HQS.go (fun K hK => ?_)
      go_simp
      apply Exists.intro
      refine ⟨fun W hW => ?_, hK _ ?_⟩
      · (try go_simp)
        exact rfl
      clear hK K
      refine HQN.go ?_
      intro w3 hW
      have HB3 := Lib.hid (below_trans HB.out hW)
      clear hW
      go_wp2
      go_ret
      exact ⟨rfl, HV.out _ HB3.out, HBS.out _ HB3.out⟩
    case neg =>
      have e1 : (t.1 == s.1) = false := by simp [hts]
      have HTS : Hid (t.1 ≠ s.1) := Lib.hid hts
      clear hts
      go_wp2_with fail
      clear c0 c1 c2 c3 c4 cl
      refine wp_region_belowC (by kernel_rfl) (by kernel_rfl) (fun WQ HQS HQN => ?_)
      refine HQS.go (fun K hK => ?_)
      go_simp
      apply Exists.intro
      refine ⟨fun W hW => ?_, hK _ ?_⟩
      · (try go_simp)
        exact rfl
      clear hK K
      refine HQS.go (fun K hK => ?_)
      go_simp
      apply Exists.intro
      refine ⟨fun W hW => ?_, hK _ ?_⟩
      · (try go_simp)
        exact rfl
      clear hK K
      refine HQS.go (fun K hK => ?_)
      go_simp
      apply Exists.intro
      refine ⟨fun W hW => ?_, hK _ ?_⟩
      · (try go_simp)
        exact rfl
      clear hK K
      refine HQS.go (fun K hK => ?_)
      go_simp
      apply Exists.intro
      refine ⟨fun W hW => ?_, hK _ ?_⟩
      · obtain ⟨c0, c1, c2, c3, c4⟩ := HGC.out W (below_trans HB.out hW)
        have cl := lt_of_cell c0
        go_simp
        exact rfl
      clear hK K
      refine HQS.go (fun K hK => ?_)
      go_simp
      apply Exists.intro
      refine ⟨fun W hW => ?_, hK _ ?_⟩
      · (try go_simp)
        exact rfl
      clear hK K
      refine HQS.go (fun K hK => ?_)
      go_simp
      apply Exists.intro
      refine ⟨fun W hW => ?_, hK _ ?_⟩
      · (try go_simp)
        exact rfl
      clear hK K
      refine HQS.go (fun K hK => ?_)
      go_simp
      apply Exists.intro
      refine ⟨fun W hW => ?_, hK _ ?_⟩
      · (try go_simp)
        exact rfl
      clear hK K
      refine HQS.go (fun K hK => ?_)
      go_simp
      apply Exists.intro
      refine ⟨fun W hW => ?_, hK _ ?_⟩
      · have q := HC.out W hW
        have ql := lt_of_cell q
        go_simp
        exact rfl
      clear hK K
      refine HQS.go (fun K hK => ?_)
      go_simp
      apply Exists.intro
      refine ⟨fun W hW => ?_, hK _ ?_⟩
      · (try go_simp)
        exact rfl
      clear hK K
      refine HQS.go (fun K hK => ?_)
      go_simp
      apply Exists.intro
      refine ⟨fun W hW => ?_, hK _ ?_⟩
      · obtain ⟨q0, q1⟩ := HK.out W (below_trans HB.out hW)
        have ql := lt_of_cell q0
        go_simp
        exact rfl
      clear hK K
      refine HQS.go (fun K hK => ?_)
      go_simp
      apply Exists.intro
      refine ⟨fun W hW => ?_, hK _ ?_⟩
      · (try go_simp)
        exact rfl
      clear hK K
      refine HQN.go ?_
      intro w3 hW
      have HB3 := Lib.hid (below_trans HB.out hW)
      clear hW
      go_wp2
      go_roundw
      case rel =>
        refine ⟨k + 1, by omega, by go_num, HB3.out, fun j u hj hu => ?_⟩
        by_cases hjk : j = k
        · rw [hjk, HTK.out] at hu
          cases hu
          exact HTS.out
        · exact HNE.out j u (by omega) hu
      case measure => simp [intOf]; omega
  case neg =>
  obtain rfl : k = S.length := by omega
  have hfn := fnd_no (fun j t hj ht => HNE.out j t hj ht)
  have hf0 : ff = false := by rw [← HFF.out, hfn]; rfl
  have he : er = 0 := by rw [← HER.out]; unfold offE; rw [HCK.out, HFF.out, hf0]; rfl
  have hs : S' = S ++ [s] := by rw [← HS'.out]; unfold offS; rw [HER.out, he]; rfl
  subst he
  subst hs
  clear hfn hf0
  go_wp2_with fail
  have q01 := HK.out wr HB.out
  obtain ⟨q0, q1⟩ := q01
  have ql := lt_of_cell q0
  have hO1 := HO.out _ (below_alloc HB.out.drew (.cells #[.int .i64 s.1, .int .i64 s.2] 37))
  have HO1 := Lib.hid hO1
  clear hO1
  refine wp_region_any (by kernel_rfl) ?_
  change wpAny _ _ _ _ _ _ _ (World.drew _)
  refine wpAny_take (i := 0) (v := ?_) rfl (by kernel_rfl) (by kernel_rfl) (by kernel_rfl) (fun _ _ _ h => h) (Or.inl ⟨by kernel_rfl, ?hy⟩) ?rest
  case hy => (intro W; go_simp; with_reducible rfl)
  case rest =>
  refine wpAny_take (i := 1) (v := ?_) rfl (by kernel_rfl) (by kernel_rfl) (by kernel_rfl) (fun _ _ _ h => h) (Or.inl ⟨by kernel_rfl, ?hy⟩) ?rest
  case hy => (intro W; go_simp; with_reducible rfl)
  case rest =>
  refine wpAny_take (i := 2) (v := ?_) rfl (by kernel_rfl) (by kernel_rfl) (by kernel_rfl) (fun _ _ _ h => h) (Or.inl ⟨by kernel_rfl, ?hy⟩) ?rest
  case hy => (intro W; go_simp; with_reducible rfl)
  case rest =>
  refine wpAny_take (i := 3) (v := ?_) rfl (by kernel_rfl) (by kernel_rfl) (by kernel_rfl) (fun _ _ _ h => h) (Or.inl ⟨by kernel_rfl, ?hy⟩) ?rest
  case hy => (intro W; go_simp; with_reducible rfl)
  case rest =>
  refine wpAny_ready (rs := [4, 5]) (by kernel_rfl) (by simp) ?_
  refine AllReady.consS rfl (fun K hK => ?_) (AllReady.consS rfl (fun K hK => ?_) (AllReady.nil))
  · skip
    go_simp
    refine hK.out _ _ ?_
    clear hK K
    refine wpAny_ready (rs := [5]) (by kernel_rfl) (by simp) ?_
    refine AllReady.consS rfl (fun K hK => ?_) (AllReady.nil)
    go_simp
    refine hK.out _ _ ?_
    clear hK K
    refine wpAny_ready (rs := [6]) (by kernel_rfl) (by simp) ?_
    refine AllReady.consS rfl (fun K hK => ?_) (AllReady.nil)
    go_simp
    refine hK.out _ _ ?_
    clear hK K
    refine wpAny_ready (rs := [7]) (by kernel_rfl) (by simp) ?_
    refine AllReady.consS rfl (fun K hK => ?_) (AllReady.nil)
    refine step_app (wr.drew.alloc (.cells #[.int .i64 s.1, .int .i64 s.2] 37)) (by kernel_rfl) (.tmp 50) (.tmp 52) 28 28 rfl base 37 37 i1 _ 2 16 Tryz.underlying28 Tryz.underlying28 HI.out.1 HI.out.2.1 HI.out.2.2.1 HI.out.2.2.2 rfl (by omega) (.slice AS S.length cS) S.length _ (by kernel_rfl) HO1.out (some ⟨wr.heap.size, 0, none⟩) 1 1 [.int .i64 s.1, .int .i64 s.2] (by kernel_rfl) (Rd_new wr.drew #[.int .i64 s.1, .int .i64 s.2] _ 2 1 _ rfl rfl) (by simp [Value.oneCell']) (by simp only [maxLen]; omega) (by omega) (by have := HB.out.size; have := HB0.out.size; simp; omega) ?_
    intro v4 w4 hown4 hg4
    have HBK : Hid (Blk w4 g 86 #[.int .i64 need, .string root, .int .i64 total, .slice AS S.length cS, .bool false]) := Lib.hid ((HB4.out _ (below_alloc HB.out.drew (.cells #[.int .i64 s.1, .int .i64 s.2] 37))).grown hg4 (fun e => HN.out.1 e.symm))
    have HO4 := Lib.hid hown4
    have HBW : Hid (Below base w w4) := Lib.hid ((HBS.out _ (below_alloc HB.out.drew (.cells #[.int .i64 s.1, .int .i64 s.2] 37))).1.grown hg4 (by have := HB.out.size; have := HB0.out.size; simp; omega) (fun j hj => (HO1.out.lt j hj).1))
    have HKP : Hid (KP w w4) := Lib.hid (fun b t cs hb h1 h2 => ((HBS.out _ (below_alloc HB.out.drew (.cells #[.int .i64 s.1, .int .i64 s.2] 37))).2 b t cs hb h1 h2).grown hg4 (fun e => own_ne_blk HO1.out ((HBS.out _ (below_alloc HB.out.drew (.cells #[.int .i64 s.1, .int .i64 s.2] 37))).2 b t cs hb h1 h2) (fun e => h2 e.symm) e.symm))
    have HNE4 := Lib.hid (own_ne_blk hown4 HBK.out (by decide))
    obtain ⟨A4, c4', rfl, -, -, -⟩ := Rd.of_own hown4
    clear hown4 hg4
    refine hK.out _ _ ?_
    clear hK K
    refine wpAny_take (i := 8) (v := ?_) rfl (by kernel_rfl) (by kernel_rfl) (by kernel_rfl) (fun _ _ _ h => h) (Or.inl ⟨by kernel_rfl, ?hy⟩) ?rest
    case hy => (intro W; go_simp; with_reducible rfl)
    case rest =>
    refine wpAny_take (i := 9) (v := ?_) rfl (by kernel_rfl) (by kernel_rfl) (by kernel_rfl) (fun _ _ _ h => h) (Or.inl ⟨by kernel_rfl, ?hy⟩) ?rest
    case hy => (intro W; go_simp; with_reducible rfl)
    case rest =>
    try go_simp
    refine wpAny_ready (rs := [10]) (by kernel_rfl) (by simp) ?_
    refine AllReady.consS rfl (fun K hK => ?_) (AllReady.nil)
    clear c0 c1 c2 c3 c4 cl q0 q1 ql
    have z1 := HBK.out.of_cell (i := 3) rfl
    have z2 := HBK.out.frozen 3
    have z3 := HBK.out.lt
    go_simp
    refine hK.out _ _ ?_
    clear hK K z1 z2 z3
    refine wpAny_done (by kernel_rfl) ?_ _
    go_wp2
    go_ret
    exact ⟨rfl, ⟨_, HBK.out.set 3 _, by rw [List.length_append, flat2_append]; exact row_far HO4.out _ _ HNE4.out, HNE4.out, HN.out.2⟩, HBW.out.setCell HN.out.2 _, fun b t cs hb h1 h2 => (Below.heap_setCell w4 _ _ b (Blk.other (HKP.out b t cs hb h1 h2) HBK.out h1)).trans (HKP.out b t cs hb h1 h2)⟩
  · skip
    go_simp
    refine hK.out _ _ ?_
    clear hK K
    refine wpAny_ready (rs := [4, 6]) (by kernel_rfl) (by simp) ?_
    refine AllReady.consS rfl (fun K hK => ?_) (AllReady.consS rfl (fun K hK => ?_) (AllReady.nil))
    · skip
      go_simp
      refine hK.out _ _ ?_
      clear hK K
      refine wpAny_ready (rs := [6]) (by kernel_rfl) (by simp) ?_
      refine AllReady.consS rfl (fun K hK => ?_) (AllReady.nil)
      go_simp
      refine hK.out _ _ ?_
      clear hK K
      refine wpAny_ready (rs := [7]) (by kernel_rfl) (by simp) ?_
      refine AllReady.consS rfl (fun K hK => ?_) (AllReady.nil)
      refine step_app (wr.drew.alloc (.cells #[.int .i64 s.1, .int .i64 s.2] 37)) (by kernel_rfl) (.tmp 50) (.tmp 52) 28 28 rfl base 37 37 i1 _ 2 16 Tryz.underlying28 Tryz.underlying28 HI.out.1 HI.out.2.1 HI.out.2.2.1 HI.out.2.2.2 rfl (by omega) (.slice AS S.length cS) S.length _ (by kernel_rfl) HO1.out (some ⟨wr.heap.size, 0, none⟩) 1 1 [.int .i64 s.1, .int .i64 s.2] (by kernel_rfl) (Rd_new wr.drew #[.int .i64 s.1, .int .i64 s.2] _ 2 1 _ rfl rfl) (by simp [Value.oneCell']) (by simp only [maxLen]; omega) (by omega) (by have := HB.out.size; have := HB0.out.size; simp; omega) ?_
      intro v4 w4 hown4 hg4
      have HBK : Hid (Blk w4 g 86 #[.int .i64 need, .string root, .int .i64 total, .slice AS S.length cS, .bool false]) := Lib.hid ((HB4.out _ (below_alloc HB.out.drew (.cells #[.int .i64 s.1, .int .i64 s.2] 37))).grown hg4 (fun e => HN.out.1 e.symm))
      have HO4 := Lib.hid hown4
      have HBW : Hid (Below base w w4) := Lib.hid ((HBS.out _ (below_alloc HB.out.drew (.cells #[.int .i64 s.1, .int .i64 s.2] 37))).1.grown hg4 (by have := HB.out.size; have := HB0.out.size; simp; omega) (fun j hj => (HO1.out.lt j hj).1))
      have HKP : Hid (KP w w4) := Lib.hid (fun b t cs hb h1 h2 => ((HBS.out _ (below_alloc HB.out.drew (.cells #[.int .i64 s.1, .int .i64 s.2] 37))).2 b t cs hb h1 h2).grown hg4 (fun e => own_ne_blk HO1.out ((HBS.out _ (below_alloc HB.out.drew (.cells #[.int .i64 s.1, .int .i64 s.2] 37))).2 b t cs hb h1 h2) (fun e => h2 e.symm) e.symm))
      have HNE4 := Lib.hid (own_ne_blk hown4 HBK.out (by decide))
      obtain ⟨A4, c4', rfl, -, -, -⟩ := Rd.of_own hown4
      clear hown4 hg4
      refine hK.out _ _ ?_
      clear hK K
      refine wpAny_take (i := 8) (v := ?_) rfl (by kernel_rfl) (by kernel_rfl) (by kernel_rfl) (fun _ _ _ h => h) (Or.inl ⟨by kernel_rfl, ?hy⟩) ?rest
      case hy => (intro W; go_simp; with_reducible rfl)
      case rest =>
      refine wpAny_take (i := 9) (v := ?_) rfl (by kernel_rfl) (by kernel_rfl) (by kernel_rfl) (fun _ _ _ h => h) (Or.inl ⟨by kernel_rfl, ?hy⟩) ?rest
      case hy => (intro W; go_simp; with_reducible rfl)
      case rest =>
      try go_simp
      refine wpAny_ready (rs := [10]) (by kernel_rfl) (by simp) ?_
      refine AllReady.consS rfl (fun K hK => ?_) (AllReady.nil)
      clear c0 c1 c2 c3 c4 cl q0 q1 ql
      have z1 := HBK.out.of_cell (i := 3) rfl
      have z2 := HBK.out.frozen 3
      have z3 := HBK.out.lt
      go_simp
      refine hK.out _ _ ?_
      clear hK K z1 z2 z3
      refine wpAny_done (by kernel_rfl) ?_ _
      go_wp2
      go_ret
      exact ⟨rfl, ⟨_, HBK.out.set 3 _, by rw [List.length_append, flat2_append]; exact row_far HO4.out _ _ HNE4.out, HNE4.out, HN.out.2⟩, HBW.out.setCell HN.out.2 _, fun b t cs hb h1 h2 => (Below.heap_setCell w4 _ _ b (Blk.other (HKP.out b t cs hb h1 h2) HBK.out h1)).trans (HKP.out b t cs hb h1 h2)⟩
    · skip
      go_simp
      refine hK.out _ _ ?_
      clear hK K
      refine wpAny_ready (rs := [4]) (by kernel_rfl) (by simp) ?_
      refine AllReady.consS rfl (fun K hK => ?_) (AllReady.nil)
      go_simp
      refine hK.out _ _ ?_
      clear hK K
      refine wpAny_ready (rs := [7]) (by kernel_rfl) (by simp) ?_
      refine AllReady.consS rfl (fun K hK => ?_) (AllReady.nil)
      refine step_app (wr.drew.alloc (.cells #[.int .i64 s.1, .int .i64 s.2] 37)) (by kernel_rfl) (.tmp 50) (.tmp 52) 28 28 rfl base 37 37 i1 _ 2 16 Tryz.underlying28 Tryz.underlying28 HI.out.1 HI.out.2.1 HI.out.2.2.1 HI.out.2.2.2 rfl (by omega) (.slice AS S.length cS) S.length _ (by kernel_rfl) HO1.out (some ⟨wr.heap.size, 0, none⟩) 1 1 [.int .i64 s.1, .int .i64 s.2] (by kernel_rfl) (Rd_new wr.drew #[.int .i64 s.1, .int .i64 s.2] _ 2 1 _ rfl rfl) (by simp [Value.oneCell']) (by simp only [maxLen]; omega) (by omega) (by have := HB.out.size; have := HB0.out.size; simp; omega) ?_
      intro v4 w4 hown4 hg4
      have HBK : Hid (Blk w4 g 86 #[.int .i64 need, .string root, .int .i64 total, .slice AS S.length cS, .bool false]) := Lib.hid ((HB4.out _ (below_alloc HB.out.drew (.cells #[.int .i64 s.1, .int .i64 s.2] 37))).grown hg4 (fun e => HN.out.1 e.symm))
      have HO4 := Lib.hid hown4
      have HBW : Hid (Below base w w4) := Lib.hid ((HBS.out _ (below_alloc HB.out.drew (.cells #[.int .i64 s.1, .int .i64 s.2] 37))).1.grown hg4 (by have := HB.out.size; have := HB0.out.size; simp; omega) (fun j hj => (HO1.out.lt j hj).1))
      have HKP : Hid (KP w w4) := Lib.hid (fun b t cs hb h1 h2 => ((HBS.out _ (below_alloc HB.out.drew (.cells #[.int .i64 s.1, .int .i64 s.2] 37))).2 b t cs hb h1 h2).grown hg4 (fun e => own_ne_blk HO1.out ((HBS.out _ (below_alloc HB.out.drew (.cells #[.int .i64 s.1, .int .i64 s.2] 37))).2 b t cs hb h1 h2) (fun e => h2 e.symm) e.symm))
      have HNE4 := Lib.hid (own_ne_blk hown4 HBK.out (by decide))
      obtain ⟨A4, c4', rfl, -, -, -⟩ := Rd.of_own hown4
      clear hown4 hg4
      refine hK.out _ _ ?_
      clear hK K
      refine wpAny_take (i := 8) (v := ?_) rfl (by kernel_rfl) (by kernel_rfl) (by kernel_rfl) (fun _ _ _ h => h) (Or.inl ⟨by kernel_rfl, ?hy⟩) ?rest
      case hy => (intro W; go_simp; with_reducible rfl)
      case rest =>
      refine wpAny_take (i := 9) (v := ?_) rfl (by kernel_rfl) (by kernel_rfl) (by kernel_rfl) (fun _ _ _ h => h) (Or.inl ⟨by kernel_rfl, ?hy⟩) ?rest
      case hy => (intro W; go_simp; with_reducible rfl)
      case rest =>
      try go_simp
      refine wpAny_ready (rs := [10]) (by kernel_rfl) (by simp) ?_
      refine AllReady.consS rfl (fun K hK => ?_) (AllReady.nil)
      clear c0 c1 c2 c3 c4 cl q0 q1 ql
      have z1 := HBK.out.of_cell (i := 3) rfl
      have z2 := HBK.out.frozen 3
      have z3 := HBK.out.lt
      go_simp
      refine hK.out _ _ ?_
      clear hK K z1 z2 z3
      refine wpAny_done (by kernel_rfl) ?_ _
      go_wp2
      go_ret
      exact ⟨rfl, ⟨_, HBK.out.set 3 _, by rw [List.length_append, flat2_append]; exact row_far HO4.out _ _ HNE4.out, HNE4.out, HN.out.2⟩, HBW.out.setCell HN.out.2 _, fun b t cs hb h1 h2 => (Below.heap_setCell w4 _ _ b (Blk.other (HKP.out b t cs hb h1 h2) HBK.out h1)).trans (HKP.out b t cs hb h1 h2)⟩
end

section
open Go.RowKit

theorem joinF_no (l : List (Int × Int)) (need : Int) (h : (joinF l need).2 ≠ 0) : (joinF l need).1 = 0 := by
  revert h
  unfold joinF
  repeat' split
  all_goals simp

set_option maxRecDepth 100000 in
set_option maxHeartbeats 16000000 in
theorem ropen_any (base g need total : Nat) (root : ByteArray) (S : List (Int × Int)) (opn : Bool) (w : World) (hV : RV w base g need total root S opn) (hn : S.length ≤ 1000000) (hJ : joinF (ord S total) need = joinF S need) :
    Calls Tryz.prog 24 #[.pointer (some ⟨g, 0, none⟩)] w fun e w' =>
      e = .returned (.tuple #[.int .i64 (opnR need total S opn).1, .int .i64 (opnR need total S opn).2]) ∧ RV w' base g need total root S (opn || ((opnR need total S opn).2 == 0)) ∧ Below base w w' ∧ KP w w' := by
  have HV : Hid (∀ W, Below w.heap.size w W → RV W base g need total root S opn) := Lib.hid (fun W hW => hV.below hW)
  have hbs : base ≤ w.heap.size := by
    obtain ⟨v, h1, _, _, h4⟩ := hV
    have := h1.lt
    omega
  have HBS : Hid (∀ W, Below w.heap.size w W → Below base w W ∧ KP w W) := Lib.hid (fun W hW => ⟨hW.mono hbs, KP.of_below hW⟩)
  obtain ⟨v, hv1, hv2, hv3, hv4⟩ := hV
  obtain ⟨AS, cS, rfl, -, -, hrS⟩ := Rd.of_own hv2
  have HO : Hid (∀ W, Below w.heap.size w W → W.ownsRow base 37 2 (.slice AS S.length cS) S.length (flat2 S)) := Lib.hid (fun W hW => row_below hv2 hW)
  have HB4 : Hid (∀ W, Below w.heap.size w W → Blk W g 86 #[.int .i64 need, .string root, .int .i64 total, .slice AS S.length cS, .bool opn]) := Lib.hid (fun W hW => (hW.block g hv1.lt).trans hv1)
  have HN : Hid ((Value.slice AS S.length cS).ownBlock ≠ some g ∧ base ≤ g) := Lib.hid ⟨hv3, hv4⟩
  have HGC : Hid (∀ W, Below w.heap.size w W → W.cell? ⟨g, 0, none⟩ = some (.int .i64 need) ∧ W.cell? ⟨g, 1, none⟩ = some (.string root) ∧ W.cell? ⟨g, 2, none⟩ = some (.int .i64 total) ∧ W.cell? ⟨g, 3, none⟩ = some (.slice AS S.length cS) ∧ W.cell? ⟨g, 4, none⟩ = some (.bool opn)) := Lib.hid (fun W hW => by
    have hb := HB4.out W hW
    exact ⟨hb.of_cell rfl, hb.of_cell rfl, hb.of_cell rfl, hb.of_cell rfl, hb.of_cell rfl⟩)
  have HC : Hid (∀ W, Below w.heap.size w W → _) := Lib.hid (fun W hW => rjoin_all AS cS S need W (Prs.below hrS hW) hn)
  clear hv1 hv2 hv3 hv4 hrS
  obtain ⟨c0, c1, c2, c3, c4⟩ := HGC.out w (Below.refl _ _)
  have cl := lt_of_cell c0
  cases opn with
  | true =>
    have e1 : opnR need total S true = (0, 11) := rfl
    rw [e1]
    clear e1
    go_enter Tryz.func24, Tryz.ntmps24
    go_wp2
    go_ret2
    exact ⟨rfl, HV.out _ (Below.refl _ _), Below.refl _ _, fun _ _ _ h _ _ => h⟩
  | false =>
  have e1 : opnR need total S false = joinF (ord S total) need := rfl
  rw [e1, hJ]
  clear e1 hJ
  obtain ⟨⟨j1, j2⟩, hjj⟩ : ∃ jj, joinF S need = jj := ⟨_, rfl⟩
  have hz := joinF_no S need
  rw [hjj] at HC hz ⊢
  clear hjj
  simp only [] at HC hz ⊢
  have HZ := Lib.hid hz
  clear hz
  go_enter Tryz.func24, Tryz.ntmps24
  go_upto_region 5 with (fail)
  clear c0 c1 c2 c3 c4 cl
  refine wp_region_belowC (by kernel_rfl) (by kernel_rfl) (fun WQ HQS HQN => ?_)
  refine HQS.go (fun K hK => ?_)
  go_simp
  apply Exists.intro
  refine ⟨fun W hW => ?_, hK _ ?_⟩
  · (try go_simp)
    exact rfl
  clear hK K
  refine HQS.go (fun K hK => ?_)
  go_simp
  apply Exists.intro
  refine ⟨fun W hW => ?_, hK _ ?_⟩
  · (try go_simp)
    exact rfl
  clear hK K
  refine HQS.go (fun K hK => ?_)
  go_simp
  apply Exists.intro
  refine ⟨fun W hW => ?_, hK _ ?_⟩
  · (try go_simp)
    exact rfl
  clear hK K
  refine HQS.go (fun K hK => ?_)
  go_simp
  apply Exists.intro
  refine ⟨fun W hW => ?_, hK _ ?_⟩
  · obtain ⟨c0, c1, c2, c3, c4⟩ := HGC.out W hW
    have cl := lt_of_cell c0
    go_simp
    exact rfl
  clear hK K
  refine HQS.go (fun K hK => ?_)
  go_simp
  apply Exists.intro
  refine ⟨fun W hW => ?_, hK _ ?_⟩
  · (try go_simp)
    exact rfl
  clear hK K
  refine HQS.go (fun K hK => ?_)
  go_simp
  apply Exists.intro
  refine ⟨fun W hW => ?_, hK _ ?_⟩
  · (try go_simp)
    exact rfl
  clear hK K
  refine HQS.go (fun K hK => ?_)
  go_simp
  apply Exists.intro
  refine ⟨fun W hW => ?_, hK _ ?_⟩
  · (try go_simp)
    exact rfl
  clear hK K
  refine HQS.go (fun K hK => ?_)
  go_simp
  apply Exists.intro
  refine ⟨fun W hW => ?_, hK _ ?_⟩
  · obtain ⟨c0, c1, c2, c3, c4⟩ := HGC.out W hW
    have cl := lt_of_cell c0
    go_simp
    exact rfl
  clear hK K
  refine HQS.go (fun K hK => ?_)
  go_simp
  apply Exists.intro
  refine ⟨fun W hW => ?_, hK _ ?_⟩
  · exact (HC.out W hW).mono fun _ _ ⟨he, hb⟩ => ⟨he, below_trans hW hb⟩
  clear hK K
  refine HQS.go (fun K hK => ?_)
  go_simp
  apply Exists.intro
  refine ⟨fun W hW => ?_, hK _ ?_⟩
  · (try go_simp)
    exact rfl
  clear hK K
  refine HQS.go (fun K hK => ?_)
  go_simp
  apply Exists.intro
  refine ⟨fun W hW => ?_, hK _ ?_⟩
  · (try go_simp)
    exact rfl
  clear hK K
  refine HQS.go (fun K hK => ?_)
  go_simp
  apply Exists.intro
  refine ⟨fun W hW => ?_, hK _ ?_⟩
  · (try go_simp)
    exact rfl
  clear hK K
  refine HQS.go (fun K hK => ?_)
  go_simp
  apply Exists.intro
  refine ⟨fun W hW => ?_, hK _ ?_⟩
  · (try go_simp)
    exact rfl
  clear hK K
  refine HQS.go (fun K hK => ?_)
  go_simp
  apply Exists.intro
  refine ⟨fun W hW => ?_, hK _ ?_⟩
  · (try go_simp)
    exact rfl
  clear hK K
  refine HQN.go ?_
  intro w5 hW
  have HB5 := Lib.hid hW
  clear hW
  by_cases hj2 : j2 = 0
  case neg =>
    have hj1 : j1 = 0 := HZ.out hj2
    subst hj1
    have hd : decide (j2 = 0) = false := decide_eq_false hj2
    have HD2 : Hid ((j2 == 0) = false) := Lib.hid (by simp [hj2])
    go_wp2
    go_ret2
    exact ⟨rfl, by rw [HD2.out]; exact HV.out _ HB5.out, HBS.out _ HB5.out⟩
  case pos =>
    subst hj2
    obtain ⟨c0, c1, c2, c3, c4⟩ := HGC.out w5 HB5.out
    have cl := lt_of_cell c0
    have hfz := (HB4.out w5 HB5.out).frozen 4
    go_wp2
    go_ret2
    exact ⟨rfl, ⟨_, (HB4.out w5 HB5.out).set 4 _, row_far (HO.out w5 HB5.out) _ _ HN.out.1, HN.out.1, HN.out.2⟩, (HBS.out _ HB5.out).1.setCell HN.out.2 _, fun b t cs hb h1 h2 => (Below.heap_setCell w5 _ _ b (Blk.other ((HBS.out _ HB5.out).2 b t cs hb h1 h2) (HB4.out w5 HB5.out) h1)).trans ((HBS.out _ HB5.out).2 b t cs hb h1 h2)⟩
end

section
open Go.RowKit Go.ChangeShapes Go.WideShapes Go.Deep

structure Stp where
  o : Bool
  s : Int × Int
  A : Option Addr
  c : Nat
  p : List ByteArray

def Stp.fit (a : Stp) : Prop := (-9223372036854775808 ≤ a.s.1 ∧ a.s.1 ≤ 9223372036854775807) ∧ (-9223372036854775808 ≤ a.s.2 ∧ a.s.2 ≤ 9223372036854775807) ∧ a.p.length ≤ a.c ∧ a.p.length ≤ 9223372036854775807

def StC (w : World) (cs : List Value) (a : Stp) : Prop := cs = [.bool a.o, .int .i64 a.s.1, .int .i64 a.s.2, .slice a.A a.p.length a.c] ∧ Strs w a.A a.p ∧ a.fit

theorem four_of {cs : List Value} (hl : cs.length = 4) : ∃ a b c d, cs = [a, b, c, d] := by
  match cs, hl with
  | [a, b, c, d], _ => exact ⟨a, b, c, d, rfl⟩

theorem opn_step (w : World) : Opn Tryz.prog w 48 (StC w) := by
  intro H enc n cs x h
  obtain ⟨hl, hf⟩ := Opn.fields Tryz.underlying48 h
  have hl : cs.length = 4 := hl.trans (by kernel_rfl)
  obtain ⟨c0, c1, c2, c3, rfl⟩ := four_of hl
  obtain ⟨a0, h0⟩ := hf 0 _ rfl (Opn.bool Tryz.underlying4)
  obtain ⟨a1, h1⟩ := hf 1 _ rfl (opn_share w)
  obtain ⟨a2, h2⟩ := hf 2 _ rfl (Opn.slice Tryz.underlying46 (m := 1) (by kernel_rfl) (by decide) (Opn.str Tryz.underlying9))
  have k0 : Tryz.prog.cellsOf 4 = 1 := by kernel_rfl
  have k1 : Tryz.prog.cellsOf 37 = 2 := by kernel_rfl
  have k2 : Tryz.prog.cellsOf 46 = 1 := by kernel_rfl
  have h0 : BoolC (([c0, c1, c2, c3].drop 0).take (Tryz.prog.cellsOf 4)) a0 := h0
  have h1 : ShC (([c0, c1, c2, c3].drop 1).take (Tryz.prog.cellsOf 37)) a1 := h1
  have h2 : SlC w 1 StrC (([c0, c1, c2, c3].drop 3).take (Tryz.prog.cellsOf 46)) a2 := h2
  rw [k0] at h0
  rw [k1] at h1
  rw [k2] at h2
  have e0 : c0 = .bool a0 := by simpa [BoolC] using h0
  obtain ⟨e1, e2, e3⟩ := h1
  have e1 : c1 = .int .i64 a1.1 ∧ c2 = .int .i64 a1.2 := by simpa using e1
  obtain ⟨rfl, rfl⟩ := e1
  subst e0
  have h2 : SlC w 1 StrC [c3] a2 := h2
  have h3 := h2
  obtain ⟨A, c, he, hl1, hl2, -⟩ := h3
  obtain rfl : c3 = .slice A a2.length c := by simpa using he
  obtain ⟨i1, i2⟩ := strs_in h2
  exact ⟨⟨a0, a1, A, c, a2⟩, rfl, i1, e2, e3, hl1, i2⟩

/-- A row of steps that reads. -/
def Stps (w : World) (A : Option Addr) (l : List Stp) : Prop :=
  0 < l.length → ∃ b off, A = some ⟨b, off, none⟩ ∧ ∀ (k : Nat) (a : Stp), l[k]? = some a →
    w.cell? ⟨b, off + k * 4, none⟩ = some (.bool a.o) ∧ w.cell? ⟨b, off + k * 4 + 1, none⟩ = some (.int .i64 a.s.1) ∧ w.cell? ⟨b, off + k * 4 + 2, none⟩ = some (.int .i64 a.s.2) ∧ w.cell? ⟨b, off + k * 4 + 3, none⟩ = some (.slice a.A a.p.length a.c) ∧ Strs w a.A a.p ∧ a.fit
theorem Stps.below {w w' : World} {A : Option Addr} {l : List Stp} (h : Stps w A l) (hb : Below w.heap.size w w') : Stps w' A l := fun hn => by
  obtain ⟨b, off, he, hc⟩ := h hn
  refine ⟨b, off, he, fun k a hk => ?_⟩
  obtain ⟨h0, h1, h2, h3, h4, h5⟩ := hc k a hk
  exact ⟨kept_cell hb h0, kept_cell hb h1, kept_cell hb h2, kept_cell hb h3, h4.below hb, h5⟩

theorem steps_in {w : World} {A : Option Addr} {c : Nat} {l : List Stp} (h : SlC w 4 (StC w) [.slice A l.length c] l) : Stps w A l ∧ l.length ≤ 9223372036854775807 := by
  obtain ⟨A', c', he, h1, h2, h3⟩ := h
  obtain ⟨rfl, rfl⟩ : A = A' ∧ c = c' := by simpa using he
  refine ⟨fun hn => ?_, by unfold maxLen at h2; omega⟩
  obtain ⟨b, off, rfl, _, hc⟩ := h3 hn
  refine ⟨b, off, rfl, fun k a hk => ?_⟩
  obtain ⟨cs', _, hcs, rfl, hs, hf⟩ := hc k a hk
  exact ⟨hcs 0 _ rfl, hcs 1 _ rfl, hcs 2 _ rfl, hcs 3 _ rfl, hs, hf⟩

set_option maxHeartbeats 4000000 in
theorem voffer_nil (s : Int × Int) (v : Value) (w : World) :
    Calls Tryz.prog 25 #[.pointer none, .agg #[.int .i64 s.1, .int .i64 s.2], v] w fun e w' => e = .returned (.int .i64 1) ∧ Below w.heap.size w w' := by
  go_enter Tryz.func25, Tryz.ntmps25
  go_wp2
  go_ret
  exact ⟨rfl, below_alloc (Below.refl _ _) _⟩
set_option maxHeartbeats 4000000 in
theorem roffer_nil (s : Int × Int) (v : Value) (w : World) :
    Calls Tryz.prog 26 #[.pointer none, .agg #[.int .i64 s.1, .int .i64 s.2], v] w fun e w' => e = .returned (.int .i64 1) ∧ Below w.heap.size w w' := by
  go_enter Tryz.func26, Tryz.ntmps26
  go_wp2
  go_ret
  exact ⟨rfl, below_alloc (Below.refl _ _) _⟩
set_option maxHeartbeats 4000000 in
theorem vopen_nil (w : World) :
    Calls Tryz.prog 23 #[.pointer none] w fun e w' => e = .returned (.tuple #[.int .i64 0, .int .i64 1]) ∧ Below w.heap.size w w' := by
  go_enter Tryz.func23, Tryz.ntmps23
  go_wp2
  go_ret2
  exact ⟨rfl, Below.refl _ _⟩
set_option maxHeartbeats 4000000 in
theorem ropen_nil (w : World) :
    Calls Tryz.prog 24 #[.pointer none] w fun e w' => e = .returned (.tuple #[.int .i64 0, .int .i64 1]) ∧ Below w.heap.size w w' := by
  go_enter Tryz.func24, Tryz.ntmps24
  go_wp2
  go_ret2
  exact ⟨rfl, Below.refl _ _⟩
end

section
open Go.RowKit

theorem digv_hexd (d : Nat) (h : d < 16) : digv (hexd d) = (d : Int) := by
  unfold digv
  rcases hexd_nat d h with ⟨h1, h2⟩ | ⟨h1, h2⟩
  · rw [h2, if_pos (by omega)]; omega
  · rw [h2, if_neg (by omega), if_pos (by omega)]; omega
theorem dec_sz (n : Nat) (h : n < 10000000000) : (dec n).size ≤ 10 := by
  have a1 := dec_len n 9 (by omega)
  have : (dec n).size = (Go.Lib.decDigits n).length := rfl
  omega

theorem mvA_get1 {l : List Int} {i : Nat} {x : Int} (s : Nat) (h : l[i]? = some x) : (mvA l s 1)[i]? = some (x + (offN s i : Int)) := by rw [mvA_get s 1 h, Int.one_mul]
theorem mvA_getm {l : List Int} {i : Nat} {x : Int} (s : Nat) (h : l[i]? = some x) : (mvA l s (-1))[i]? = some (x - (offN s i : Int)) := by rw [mvA_get s (-1) h, Int.neg_mul, Int.one_mul, ← Int.sub_eq_add_neg]

set_option maxHeartbeats 4000000 in
theorem roffset_any (s i : Nat) (hs : s < 2147483647) (hi : i ≤ 1000) (w : World) :
    Calls Tryz.prog 44 #[.int .i64 s, .int .i64 i] w fun e w' => e = .returned (.int .i64 ((offN s i : Nat) : Int)) ∧ Below w.heap.size w w' := by
  have H1 := Lib.hid (rdecimal s (by omega) w)
  have H2 := Lib.hid (rdecimal i (by omega) w)
  have H3 : Hid (Calls Tryz.prog 61 #[.slice (some ⟨w.heap.size, 0, none⟩) 3 3] (w.alloc (.cells #[.string ⟨#[98, 108, 105, 110, 100]⟩, .string (dec s), .string (dec i)] 9)) fun e w' => e = .returned (.string ⟨(hexk (dgs (blindT s i)).toNat 16).toArray⟩) ∧ Below w.heap.size w w') := Lib.hid (by
    have := rlist (some ⟨w.heap.size, 0, none⟩) 3 [bBlind, dec s, dec i] (w.alloc (.cells #[.string ⟨#[98, 108, 105, 110, 100]⟩, .string (dec s), .string (dec i)] 9)) (Strs_new _ _ _ _ _ rfl rfl) (by simp) (by
      intro t ht
      simp only [List.mem_cons, List.not_mem_nil, or_false] at ht
      rcases ht with rfl | rfl | rfl
      · decide
      · have := dec_sz s (by omega); omega
      · have := dec_sz i (by omega); omega)
    exact this.mono fun _ _ ⟨he, hb⟩ => ⟨he, below_trans (below_alloc (Below.refl _ _) _) hb⟩)
  have hd := (dgs (blindT s i)).toNat_lt
  have hoff : offN s i = (dgs (blindT s i)).toNat % 1000003 := rfl
  rw [hoff]
  generalize (dgs (blindT s i)).toNat = u at *
  generalize dec s = ds at *
  generalize dec i = di at *
  obtain ⟨t, ht⟩ : ∃ t : ByteArray, t = ⟨(hexk u 16).toArray⟩ := ⟨_, rfl⟩
  have hsz : t.size = 16 := by rw [ht]; exact hexk_len u 16
  have hget : ∀ k (h : k < t.size), t[k] = hexd (u / 16 ^ (15 - k) % 16) := fun k hk => by
    have h1 := hexk_at u 16 k (by omega)
    have h2 : t.data.toList[k]? = some t[k] := by
      rw [List.getElem?_eq_getElem (by simpa using hk)]; rfl
    have e : t.data.toList = hexk u 16 := by rw [ht]
    have h3 := h2
    rw [e] at h3
    rw [h1] at h3
    exact (Option.some.inj h3).symm
  rw [← ht] at H3
  have HGET := Lib.hid hget
  have HSZ := Lib.hid hsz
  clear hoff ht hget hsz
  go_enter Tryz.func44, Tryz.ntmps44
  go_wp2_with fail
  refine (H1.out).mono ?_
  rintro e _ ⟨rfl, rfl⟩
  go_wp2_with fail
  refine (H2.out).mono ?_
  rintro e _ ⟨rfl, rfl⟩
  go_wp2_with fail
  refine (H3.out).mono ?_
  rintro e w1 ⟨rfl, hb⟩
  have HB1 := Lib.hid hb
  clear hb
  go_wp2_with fail
  go_loop [6, 7] (fun u6 u7 => ∃ k : Nat, k ≤ 16 ∧ u7 = .int .i64 k ∧ u6 = .int .i64 ((pre16 u k % 1000003 : Nat) : Int)) (fun _ u7 => 16 - (intOf u7).toNat)
  case atStart => exact ⟨0, Nat.zero_le _, rfl, by rw [pre16_zero u (by omega)]; rfl⟩
  case round =>
  obtain ⟨k, hk, rfl, rfl⟩ := hrel
  have hszi := HSZ.out
  by_cases hlt : k < 16
  case pos =>
    have hkt : k < t.size := by omega
    have hc := HGET.out k hkt
    have hdd : u / 16 ^ (15 - k) % 16 < 16 := Nat.mod_lt _ (by omega)
    have hps := pre16_succ u k hlt
    have hdv := digv_hexd (u / 16 ^ (15 - k) % 16) hdd
    generalize u / 16 ^ (15 - k) % 16 = dd at *
    have HR := Lib.hid (rdigit (hexd dd) w1)
    rw [hdv] at HR
    have hnew : ((pre16 u (k + 1) % 1000003 : Nat) : Int) = (16 * ((pre16 u k % 1000003 : Nat) : Int) + (dd : Int)) % 1000003 := by rw [hps]; omega
    have HNEW := Lib.hid hnew
    have hlt2 : pre16 u k % 1000003 < 1000003 := Nat.mod_lt _ (by omega)
    generalize pre16 u k % 1000003 = nn at *
    have HC := Lib.hid hc
    have htm : (16 * (nn : Int) + (dd : Int)).tmod 1000003 = (16 * (nn : Int) + (dd : Int)) % 1000003 := Int.tmod_eq_emod_of_nonneg (by omega)
    have hkti : (k : Int) < (t.size : Int) := by omega
    clear hc hps hdv hnew hszi
    go_wp2_with fail
    rw [HC.out]
    refine HR.out.mono ?_
    rintro e _ ⟨rfl, rfl⟩
    go_wp2
    go_round
    case rel => exact ⟨k + 1, by omega, by go_num, by rw [HNEW.out]⟩
    case measure => simp [intOf]; omega
  case neg =>
    obtain rfl : k = 16 := by omega
    have hge : ¬ ((16 : Int) < (t.size : Int)) := by omega
    have he : pre16 u 16 % 1000003 = u % 1000003 := by rw [pre16_all]
    have HE := Lib.hid he
    clear he
    go_wp2
    go_ret
    exact ⟨ret_int (by have := HE.out; omega), HB1.out⟩
set_option maxRecDepth 100000 in
set_option maxHeartbeats 16000000 in
theorem rblind_any (A : Option Addr) (c : Nat) (l : List Int) (secret : Int) (w : World) (hA : Ints w A l) (hmax : l.length ≤ 9223372036854775807) :
    Calls Tryz.prog 17 #[.slice A l.length c, .int .i64 secret] w fun e w' =>
      ∃ v, e = .returned (.tuple #[v, .int .i64 (if mvOk l secret 1000000000 then 0 else 1)]) ∧ w'.ownsRow w.heap.size 3 1 v (mvL l secret 1000000000 1).length ((mvL l secret 1000000000 1).map (Value.int .i64)) ∧ Below w.heap.size w w' := by
  by_cases h1 : 1000 < l.length
  case pos =>
    have e : mvOk l secret 1000000000 = false := by unfold mvOk; rw [decide_eq_false (by omega)]; rfl
    unfold mvL
    rw [e]
    have hi : (1000 : Int) < (l.length : Int) := by omega
    clear hA e
    go_enter Tryz.func17, Tryz.ntmps17
    go_wp2
    go_ret2
    exact ⟨_, rfl, ⟨rfl, .inl ⟨rfl, rfl⟩⟩, Below.refl _ _⟩
  case neg =>
  have d1 : decide (1000 < l.length) = false := decide_eq_false h1
  have d1' : decide ((1000 : Int) < (l.length : Int)) = false := decide_eq_false (by omega)
  have HEL := Lib.hid (relement_any secret w)
  by_cases h2 : elemB secret = true
  case neg =>
    have h2' : elemB secret = false := Bool.eq_false_iff.2 h2
    have e : mvOk l secret 1000000000 = false := by unfold mvOk; rw [h2']; simp
    unfold mvL
    rw [e]
    rw [h2'] at HEL
    clear hA e h2 h2'
    go_enter Tryz.func17, Tryz.ntmps17
    go_wp2_with fail
    refine HEL.out.mono ?_
    rintro e _ ⟨rfl, rfl⟩
    go_wp2
    go_ret2
    exact ⟨_, rfl, ⟨rfl, .inl ⟨rfl, rfl⟩⟩, Below.refl _ _⟩
  case pos =>
  rw [h2] at HEL
  obtain ⟨s0, s1⟩ := (elemB_iff secret).1 h2
  obtain ⟨s, rfl⟩ : ∃ s : Nat, secret = (s : Int) := ⟨secret.toNat, by omega⟩
  obtain ⟨v, hv⟩ : ∃ v, l.all (mvR 1000000000) = v := ⟨_, rfl⟩
  have hok : mvOk l (s : Int) 1000000000 = v := by unfold mvOk; rw [hv, h2, decide_eq_true (by omega)]; rfl
  have hlv : mvL l (s : Int) 1000000000 1 = if v then mvA l s 1 else [] := by unfold mvL; rw [hok, Int.toNat_natCast]
  rw [hok, hlv]
  have HV := Lib.hid hv
  have HA := Lib.hid hA
  obtain ⟨i0, hi0, hz0, hz1, hz2⟩ := info_parts info_int
  have HI := Lib.hid (And.intro hi0 (And.intro hz0 (And.intro hz1 hz2)))
  have HO1 : Hid (∀ (i : Nat) (W : World), i ≤ 1000 → _) := Lib.hid (fun i W hi => roffset_any s i (by omega) hi W)
  have hml := mvA_length l s 1
  have HMG : Hid (∀ (i : Nat) (x : Int), l[i]? = some x → (mvA l s 1)[i]? = some (x + (offN s i : Int))) := Lib.hid (fun i x h => mvA_get1 s h)
  generalize mvA l s 1 = res at *
  have HO0 : Hid (w.ownsRow w.heap.size 3 1 (.slice none 0 0) 0 []) := ⟨rfl, .inl ⟨rfl, rfl⟩⟩
  clear hv hA hok hlv hi0 hz0 hz1 hz2 h2
  go_enter Tryz.func17, Tryz.ntmps17
  go_wp2_with fail
  refine HEL.out.mono ?_
  rintro e _ ⟨rfl, rfl⟩
  go_wp2_with fail
  go_loopw [6, 7] (fun u6 u7 wr => ∃ i : Nat, i ≤ l.length ∧ u7 = .int .i64 i ∧ Below w.heap.size w wr ∧ wr.ownsRow w.heap.size 3 1 u6 i ((res.take i).map (Value.int .i64)) ∧ (l.take i).all (mvR 1000000000) = true) (fun _ u7 _ => l.length - (intOf u7).toNat)
  case atStart => exact ⟨0, Nat.zero_le _, rfl, Below.refl _ _, HO0.out, rfl⟩
  case round =>
  obtain ⟨i, hi, rfl, hb, ho, hall⟩ := hrel
  have HB := Lib.hid hb
  have HOW := Lib.hid ho
  have HALL := Lib.hid hall
  clear hb ho hall
  by_cases hlt : i < l.length
  case pos =>
    obtain ⟨x, hx⟩ := get_some l i hlt
    have HX := Lib.hid hx
    clear hx
    obtain ⟨b, off, rfl, hcx⟩ := HA.out.at_ HX.out
    have HCX : Hid (∀ W, Below w.heap.size w W → W.cell? ⟨b, off + i, none⟩ = some (.int .i64 x)) := Lib.hid (fun W hW => kept_cell hW hcx)
    have hcw := HCX.out wr HB.out
    have hcl := lt_of_cell hcw
    clear hcx
    cases hvx : mvR 1000000000 x
    case false =>
      have hvf : v = false := by rw [← HV.out]; exact all_false_of (mvR 1000000000) l i x HX.out hvx
      subst hvf
      have hor : x < -1000000000 ∨ 1000000000 < x := by
        have := hvx
        simp only [mvR, Bool.and_eq_false_iff, decide_eq_false_iff_not] at this
        omega
      clear hvx
      by_cases hx1 : x < -1000000000
      · have e1 : decide (x < -1000000000) = true := decide_eq_true hx1
        clear hor hx1
        repeat (first | go_values | go_skip | go_guarded | go_step | go_upon)
        go_ret2
        exact ⟨_, rfl, ⟨rfl, .inl ⟨rfl, rfl⟩⟩, HB.out⟩
      · have e1 : decide (x < -1000000000) = false := decide_eq_false hx1
        have hx2 : 1000000000 < x := by omega
        have e2 : decide (1000000000 < x) = true := decide_eq_true hx2
        clear hor
        go_wp2
        go_ret2
        exact ⟨_, rfl, ⟨rfl, .inl ⟨rfl, rfl⟩⟩, HB.out⟩
    case true =>
    have HVX := Lib.hid hvx
    have hxr : -1000000000 ≤ x ∧ x ≤ 1000000000 := by
      have := hvx
      simp only [mvR, Bool.and_eq_true, decide_eq_true_eq] at this
      exact this
    obtain ⟨hx1, hx2⟩ := hxr
    have e1 : decide (x < -1000000000) = false := decide_eq_false (by omega)
    have e2 : decide (1000000000 < x) = false := decide_eq_false (by omega)
    have hol := offN_lt s i
    have HNEW := Lib.hid (HMG.out i x HX.out)
    have HCALL : Hid (∀ W, _) := Lib.hid (fun W => HO1.out i W (by omega))
    clear hvx
    generalize offN s i = d at *
    have hw2 : IntKind.i64.wrap (x + (d : Int)) = x + (d : Int) := by rw [IntWalk.i64_in _ (by omega)]
    clear hx1 hx2
    go_wp2_with fail
    refine wp_region_held_drew (S := fun W => Below w.heap.size w W) (by kernel_rfl) (HB.out.drew) (fun hS0 => ?_)
    refine wpAnyH_take (i := 0) (v := ?_) rfl (by kernel_rfl) (by kernel_rfl) (by kernel_rfl) (fun _ _ _ h => h) (Or.inl ⟨by kernel_rfl, ?hy⟩) hS0 ?rest
    case hy => (intro W hSw; clear hSw; go_simp; with_reducible rfl)
    case rest =>
    refine wpAnyH_take (i := 1) (v := ?_) rfl (by kernel_rfl) (by kernel_rfl) (by kernel_rfl) (fun _ _ _ h => h) (Or.inl ⟨by kernel_rfl, ?hy⟩) hS0 ?rest
    case hy => (intro W hSw; clear hSw; go_simp; with_reducible rfl)
    case rest =>
    refine wpAnyH_take (i := 2) (v := ?_) rfl (by kernel_rfl) (by kernel_rfl) (by kernel_rfl) (fun _ _ _ h => h) (Or.inl ⟨by kernel_rfl, ?hy⟩) hS0 ?rest
    case hy => (intro W hSw; clear hSw; go_simp; with_reducible rfl)
    case rest =>
    refine wpAnyH_take (i := 3) (v := ?_) rfl (by kernel_rfl) (by kernel_rfl) (by kernel_rfl) (fun _ _ _ h => h) (Or.inl ⟨by kernel_rfl, ?hy⟩) hS0 ?rest
    case hy => (intro W hSw; clear hSw; go_simp; with_reducible rfl)
    case rest =>
    refine wpAnyH_take (i := 4) (v := ?_) rfl (by kernel_rfl) (by kernel_rfl) (by kernel_rfl) (fun _ _ _ h => h) (Or.inl ⟨by kernel_rfl, ?hy⟩) hS0 ?rest
    case hy => (intro W hSw; have q := HCX.out W hSw; have ql := lt_of_cell q; clear hSw; go_simp; with_reducible rfl)
    case rest =>
    refine wpAnyH_take (i := 5) (v := ?_) rfl (by kernel_rfl) (by kernel_rfl) (by kernel_rfl) (fun _ _ _ h => h) (Or.inl ⟨by kernel_rfl, ?hy⟩) hS0 ?rest
    case hy => (intro W hSw; clear hSw; go_simp; with_reducible rfl)
    case rest =>
    try go_simp
    refine wpAnyH_take (i := 6) (v := ?_) rfl (by kernel_rfl) (by kernel_rfl) (by kernel_rfl) (fun _ _ _ h => h) (Or.inl ⟨by kernel_rfl, ?hy⟩) hS0 ?rest
    case hy => (intro W hSw; clear hSw; go_simp; with_reducible rfl)
    case rest =>
    refine wpAnyH_ready (rs := [7]) (by kernel_rfl) (by simp) ?_
    refine AllReadyH.cons rfl (fun K hK => ?_) (AllReadyH.nil)
    go_simp
    refine (HCALL.out _).mono ?_
    rintro e W1 ⟨rfl, hb1⟩
    have HW1 : Hid (Below w.heap.size w W1) := Lib.hid (below_trans HB.out.drew hb1)
    have HR1 := Lib.hid (row_below (row_below HOW.out (Below.drew (Below.refl _ _))) hb1)
    clear hb1
    go_simp
    refine hK.out _ _ HW1.out (fun hS1 => ?_)
    clear hK K
    refine wpAnyH_take (i := 8) (v := ?_) rfl (by kernel_rfl) (by kernel_rfl) (by kernel_rfl) (fun _ _ _ h => h) (Or.inl ⟨by kernel_rfl, ?hy⟩) hS1 ?rest
    case hy => (intro W hSw; clear hSw; go_simp; with_reducible rfl)
    case rest =>
    refine wpAnyH_ready (rs := [9]) (by kernel_rfl) (by simp) ?_
    refine AllReadyH.cons rfl (fun K hK => ?_) (AllReadyH.nil)
    go_simp
    refine hK.out _ _ (below_alloc HW1.out _) (fun hS2 => ?_)
    clear hK K
    have HR2 : Hid ((W1.alloc (.cells #[.int .i64 (x + (d : Int))] 3)).ownsRow w.heap.size 3 1 u6 i ((res.take i).map (Value.int .i64))) := Lib.hid (row_below HR1.out (below_alloc (Below.refl _ _) _))
    refine wpAnyH_ready (rs := [10]) (by kernel_rfl) (by simp) ?_
    refine AllReadyH.cons rfl (fun K hK => ?_) (AllReadyH.nil)
    refine step_app (W1.alloc (.cells #[.int .i64 (x + (d : Int))] 3)) (by kernel_rfl) (.tmp 34) (.tmp 43) 22 22 rfl w.heap.size 3 3 i0 _ 1 8 Tryz.underlying22 Tryz.underlying22 HI.out.1 HI.out.2.1 HI.out.2.2.1 HI.out.2.2.2 rfl (by omega) u6 i _ (by kernel_rfl) HR2.out (some ⟨W1.heap.size, 0, none⟩) 1 1 [.int .i64 (x + (d : Int))] (by kernel_rfl) (Rd_new W1 #[.int .i64 (x + (d : Int))] _ 1 1 _ rfl rfl) (by simp [Value.oneCell']) (by simp only [maxLen]; omega) (by omega) (by have := HW1.out.size; simp; omega) ?_
    intro v4 w4 hown4 hg4
    have HB4 : Hid (Below w.heap.size w w4) := Lib.hid ((below_alloc HW1.out _).grown hg4 (by have := HW1.out.size; simp; omega) (fun j hj => (HR2.out.lt j hj).1))
    have HO4 := Lib.hid hown4
    clear hown4 hg4
    refine hK.out _ _ HB4.out (fun hS3 => ?_)
    clear hK K
    refine wpAnyH_take (i := 11) (v := ?_) rfl (by kernel_rfl) (by kernel_rfl) (by kernel_rfl) (fun _ _ _ h => h) (Or.inl ⟨by kernel_rfl, ?hy⟩) hS3 ?rest
    case hy => (intro W hSw; clear hSw; go_simp; with_reducible rfl)
    case rest =>
    refine wpAnyH_done (by kernel_rfl) ?_ _
    clear hS0 hS1 hS2 hS3
    go_wp2
    go_roundw
    case rel => exact ⟨i + 1, by omega, by go_num, HB4.out, by rw [take_snoc _ _ _ HNEW.out, List.map_append]; exact HO4.out, by rw [all_take_succ _ _ _ _ HX.out, HALL.out, HVX.out]; rfl⟩
    case measure => simp [intOf]; omega
  case neg =>
  obtain rfl : i = l.length := by omega
  have hvt : v = true := by rw [← HV.out]; have := HALL.out; rwa [List.take_length] at this
  subst hvt
  have HOF : Hid (wr.ownsRow w.heap.size 3 1 u6 l.length (res.map (Value.int .i64))) := Lib.hid (by
    have := HOW.out
    rw [List.take_of_length_le (by omega)] at this
    exact this)
  go_wp2
  go_ret2
  exact ⟨_, rfl, HOF.out, HB.out⟩
set_option maxRecDepth 100000 in
set_option maxHeartbeats 16000000 in
theorem runblind_any (A : Option Addr) (c : Nat) (l : List Int) (secret : Int) (w : World) (hA : Ints w A l) (hmax : l.length ≤ 9223372036854775807) :
    Calls Tryz.prog 18 #[.slice A l.length c, .int .i64 secret] w fun e w' =>
      ∃ v, e = .returned (.tuple #[v, .int .i64 (if mvOk l secret 1001000002 then 0 else 1)]) ∧ w'.ownsRow w.heap.size 3 1 v (mvL l secret 1001000002 (-1)).length ((mvL l secret 1001000002 (-1)).map (Value.int .i64)) ∧ Below w.heap.size w w' := by
  by_cases h1 : 1000 < l.length
  case pos =>
    have e : mvOk l secret 1001000002 = false := by unfold mvOk; rw [decide_eq_false (by omega)]; rfl
    unfold mvL
    rw [e]
    have hi : (1000 : Int) < (l.length : Int) := by omega
    clear hA e
    go_enter Tryz.func18, Tryz.ntmps18
    go_wp2
    go_ret2
    exact ⟨_, rfl, ⟨rfl, .inl ⟨rfl, rfl⟩⟩, Below.refl _ _⟩
  case neg =>
  have d1 : decide (1000 < l.length) = false := decide_eq_false h1
  have d1' : decide ((1000 : Int) < (l.length : Int)) = false := decide_eq_false (by omega)
  have HEL := Lib.hid (relement_any secret w)
  by_cases h2 : elemB secret = true
  case neg =>
    have h2' : elemB secret = false := Bool.eq_false_iff.2 h2
    have e : mvOk l secret 1001000002 = false := by unfold mvOk; rw [h2']; simp
    unfold mvL
    rw [e]
    rw [h2'] at HEL
    clear hA e h2 h2'
    go_enter Tryz.func18, Tryz.ntmps18
    go_wp2_with fail
    refine HEL.out.mono ?_
    rintro e _ ⟨rfl, rfl⟩
    go_wp2
    go_ret2
    exact ⟨_, rfl, ⟨rfl, .inl ⟨rfl, rfl⟩⟩, Below.refl _ _⟩
  case pos =>
  rw [h2] at HEL
  obtain ⟨s0, s1⟩ := (elemB_iff secret).1 h2
  obtain ⟨s, rfl⟩ : ∃ s : Nat, secret = (s : Int) := ⟨secret.toNat, by omega⟩
  obtain ⟨v, hv⟩ : ∃ v, l.all (mvR 1001000002) = v := ⟨_, rfl⟩
  have hok : mvOk l (s : Int) 1001000002 = v := by unfold mvOk; rw [hv, h2, decide_eq_true (by omega)]; rfl
  have hlv : mvL l (s : Int) 1001000002 (-1) = if v then mvA l s (-1) else [] := by unfold mvL; rw [hok, Int.toNat_natCast]
  rw [hok, hlv]
  have HV := Lib.hid hv
  have HA := Lib.hid hA
  obtain ⟨i0, hi0, hz0, hz1, hz2⟩ := info_parts info_int
  have HI := Lib.hid (And.intro hi0 (And.intro hz0 (And.intro hz1 hz2)))
  have HO1 : Hid (∀ (i : Nat) (W : World), i ≤ 1000 → _) := Lib.hid (fun i W hi => roffset_any s i (by omega) hi W)
  have hml := mvA_length l s (-1)
  have HMG : Hid (∀ (i : Nat) (x : Int), l[i]? = some x → (mvA l s (-1))[i]? = some (x - (offN s i : Int))) := Lib.hid (fun i x h => mvA_getm s h)
  generalize mvA l s (-1) = res at *
  have HO0 : Hid (w.ownsRow w.heap.size 3 1 (.slice none 0 0) 0 []) := ⟨rfl, .inl ⟨rfl, rfl⟩⟩
  clear hv hA hok hlv hi0 hz0 hz1 hz2 h2
  go_enter Tryz.func18, Tryz.ntmps18
  go_wp2_with fail
  refine HEL.out.mono ?_
  rintro e _ ⟨rfl, rfl⟩
  go_wp2_with fail
  go_loopw [6, 7] (fun u6 u7 wr => ∃ i : Nat, i ≤ l.length ∧ u7 = .int .i64 i ∧ Below w.heap.size w wr ∧ wr.ownsRow w.heap.size 3 1 u6 i ((res.take i).map (Value.int .i64)) ∧ (l.take i).all (mvR 1001000002) = true) (fun _ u7 _ => l.length - (intOf u7).toNat)
  case atStart => exact ⟨0, Nat.zero_le _, rfl, Below.refl _ _, HO0.out, rfl⟩
  case round =>
  obtain ⟨i, hi, rfl, hb, ho, hall⟩ := hrel
  have HB := Lib.hid hb
  have HOW := Lib.hid ho
  have HALL := Lib.hid hall
  clear hb ho hall
  by_cases hlt : i < l.length
  case pos =>
    obtain ⟨x, hx⟩ := get_some l i hlt
    have HX := Lib.hid hx
    clear hx
    obtain ⟨b, off, rfl, hcx⟩ := HA.out.at_ HX.out
    have HCX : Hid (∀ W, Below w.heap.size w W → W.cell? ⟨b, off + i, none⟩ = some (.int .i64 x)) := Lib.hid (fun W hW => kept_cell hW hcx)
    have hcw := HCX.out wr HB.out
    have hcl := lt_of_cell hcw
    clear hcx
    cases hvx : mvR 1001000002 x
    case false =>
      have hvf : v = false := by rw [← HV.out]; exact all_false_of (mvR 1001000002) l i x HX.out hvx
      subst hvf
      have hor : x < -1000000000 ∨ 1001000002 < x := by
        have := hvx
        simp only [mvR, Bool.and_eq_false_iff, decide_eq_false_iff_not] at this
        omega
      clear hvx
      by_cases hx1 : x < -1000000000
      · have e1 : decide (x < -1000000000) = true := decide_eq_true hx1
        clear hor hx1
        repeat (first | go_values | go_skip | go_guarded | go_step | go_upon)
        go_ret2
        exact ⟨_, rfl, ⟨rfl, .inl ⟨rfl, rfl⟩⟩, HB.out⟩
      · have e1 : decide (x < -1000000000) = false := decide_eq_false hx1
        have hx2 : 1001000002 < x := by omega
        have e2 : decide (1001000002 < x) = true := decide_eq_true hx2
        clear hor
        go_wp2
        go_ret2
        exact ⟨_, rfl, ⟨rfl, .inl ⟨rfl, rfl⟩⟩, HB.out⟩
    case true =>
    have HVX := Lib.hid hvx
    have hxr : -1000000000 ≤ x ∧ x ≤ 1001000002 := by
      have := hvx
      simp only [mvR, Bool.and_eq_true, decide_eq_true_eq] at this
      exact this
    obtain ⟨hx1, hx2⟩ := hxr
    have e1 : decide (x < -1000000000) = false := decide_eq_false (by omega)
    have e2 : decide (1001000002 < x) = false := decide_eq_false (by omega)
    have hol := offN_lt s i
    have HNEW := Lib.hid (HMG.out i x HX.out)
    have HCALL : Hid (∀ W, _) := Lib.hid (fun W => HO1.out i W (by omega))
    clear hvx
    generalize offN s i = d at *
    have hw2 : IntKind.i64.wrap (x - (d : Int)) = x - (d : Int) := by rw [IntWalk.i64_in _ (by omega)]
    clear hx1 hx2
    go_wp2_with fail
    refine wp_region_held_drew (S := fun W => Below w.heap.size w W) (by kernel_rfl) (HB.out.drew) (fun hS0 => ?_)
    refine wpAnyH_take (i := 0) (v := ?_) rfl (by kernel_rfl) (by kernel_rfl) (by kernel_rfl) (fun _ _ _ h => h) (Or.inl ⟨by kernel_rfl, ?hy⟩) hS0 ?rest
    case hy => (intro W hSw; clear hSw; go_simp; with_reducible rfl)
    case rest =>
    refine wpAnyH_take (i := 1) (v := ?_) rfl (by kernel_rfl) (by kernel_rfl) (by kernel_rfl) (fun _ _ _ h => h) (Or.inl ⟨by kernel_rfl, ?hy⟩) hS0 ?rest
    case hy => (intro W hSw; clear hSw; go_simp; with_reducible rfl)
    case rest =>
    refine wpAnyH_take (i := 2) (v := ?_) rfl (by kernel_rfl) (by kernel_rfl) (by kernel_rfl) (fun _ _ _ h => h) (Or.inl ⟨by kernel_rfl, ?hy⟩) hS0 ?rest
    case hy => (intro W hSw; clear hSw; go_simp; with_reducible rfl)
    case rest =>
    refine wpAnyH_take (i := 3) (v := ?_) rfl (by kernel_rfl) (by kernel_rfl) (by kernel_rfl) (fun _ _ _ h => h) (Or.inl ⟨by kernel_rfl, ?hy⟩) hS0 ?rest
    case hy => (intro W hSw; clear hSw; go_simp; with_reducible rfl)
    case rest =>
    refine wpAnyH_take (i := 4) (v := ?_) rfl (by kernel_rfl) (by kernel_rfl) (by kernel_rfl) (fun _ _ _ h => h) (Or.inl ⟨by kernel_rfl, ?hy⟩) hS0 ?rest
    case hy => (intro W hSw; have q := HCX.out W hSw; have ql := lt_of_cell q; clear hSw; go_simp; with_reducible rfl)
    case rest =>
    refine wpAnyH_take (i := 5) (v := ?_) rfl (by kernel_rfl) (by kernel_rfl) (by kernel_rfl) (fun _ _ _ h => h) (Or.inl ⟨by kernel_rfl, ?hy⟩) hS0 ?rest
    case hy => (intro W hSw; clear hSw; go_simp; with_reducible rfl)
    case rest =>
    try go_simp
    refine wpAnyH_take (i := 6) (v := ?_) rfl (by kernel_rfl) (by kernel_rfl) (by kernel_rfl) (fun _ _ _ h => h) (Or.inl ⟨by kernel_rfl, ?hy⟩) hS0 ?rest
    case hy => (intro W hSw; clear hSw; go_simp; with_reducible rfl)
    case rest =>
    refine wpAnyH_ready (rs := [7]) (by kernel_rfl) (by simp) ?_
    refine AllReadyH.cons rfl (fun K hK => ?_) (AllReadyH.nil)
    go_simp
    refine (HCALL.out _).mono ?_
    rintro e W1 ⟨rfl, hb1⟩
    have HW1 : Hid (Below w.heap.size w W1) := Lib.hid (below_trans HB.out.drew hb1)
    have HR1 := Lib.hid (row_below (row_below HOW.out (Below.drew (Below.refl _ _))) hb1)
    clear hb1
    go_simp
    refine hK.out _ _ HW1.out (fun hS1 => ?_)
    clear hK K
    refine wpAnyH_take (i := 8) (v := ?_) rfl (by kernel_rfl) (by kernel_rfl) (by kernel_rfl) (fun _ _ _ h => h) (Or.inl ⟨by kernel_rfl, ?hy⟩) hS1 ?rest
    case hy => (intro W hSw; clear hSw; go_simp; with_reducible rfl)
    case rest =>
    refine wpAnyH_ready (rs := [9]) (by kernel_rfl) (by simp) ?_
    refine AllReadyH.cons rfl (fun K hK => ?_) (AllReadyH.nil)
    go_simp
    refine hK.out _ _ (below_alloc HW1.out _) (fun hS2 => ?_)
    clear hK K
    have HR2 : Hid ((W1.alloc (.cells #[.int .i64 (x - (d : Int))] 3)).ownsRow w.heap.size 3 1 u6 i ((res.take i).map (Value.int .i64))) := Lib.hid (row_below HR1.out (below_alloc (Below.refl _ _) _))
    refine wpAnyH_ready (rs := [10]) (by kernel_rfl) (by simp) ?_
    refine AllReadyH.cons rfl (fun K hK => ?_) (AllReadyH.nil)
    refine step_app (W1.alloc (.cells #[.int .i64 (x - (d : Int))] 3)) (by kernel_rfl) (.tmp 34) (.tmp 43) 22 22 rfl w.heap.size 3 3 i0 _ 1 8 Tryz.underlying22 Tryz.underlying22 HI.out.1 HI.out.2.1 HI.out.2.2.1 HI.out.2.2.2 rfl (by omega) u6 i _ (by kernel_rfl) HR2.out (some ⟨W1.heap.size, 0, none⟩) 1 1 [.int .i64 (x - (d : Int))] (by kernel_rfl) (Rd_new W1 #[.int .i64 (x - (d : Int))] _ 1 1 _ rfl rfl) (by simp [Value.oneCell']) (by simp only [maxLen]; omega) (by omega) (by have := HW1.out.size; simp; omega) ?_
    intro v4 w4 hown4 hg4
    have HB4 : Hid (Below w.heap.size w w4) := Lib.hid ((below_alloc HW1.out _).grown hg4 (by have := HW1.out.size; simp; omega) (fun j hj => (HR2.out.lt j hj).1))
    have HO4 := Lib.hid hown4
    clear hown4 hg4
    refine hK.out _ _ HB4.out (fun hS3 => ?_)
    clear hK K
    refine wpAnyH_take (i := 11) (v := ?_) rfl (by kernel_rfl) (by kernel_rfl) (by kernel_rfl) (fun _ _ _ h => h) (Or.inl ⟨by kernel_rfl, ?hy⟩) hS3 ?rest
    case hy => (intro W hSw; clear hSw; go_simp; with_reducible rfl)
    case rest =>
    refine wpAnyH_done (by kernel_rfl) ?_ _
    clear hS0 hS1 hS2 hS3
    go_wp2
    go_roundw
    case rel => exact ⟨i + 1, by omega, by go_num, HB4.out, by rw [take_snoc _ _ _ HNEW.out, List.map_append]; exact HO4.out, by rw [all_take_succ _ _ _ _ HX.out, HALL.out, HVX.out]; rfl⟩
    case measure => simp [intOf]; omega
  case neg =>
  obtain rfl : i = l.length := by omega
  have hvt : v = true := by rw [← HV.out]; have := HALL.out; rwa [List.take_length] at this
  subst hvt
  have HOF : Hid (wr.ownsRow w.heap.size 3 1 u6 l.length (res.map (Value.int .i64))) := Lib.hid (by
    have := HOW.out
    rw [List.take_of_length_le (by omega)] at this
    exact this)
  go_wp2
  go_ret2
  exact ⟨_, rfl, HOF.out, HB.out⟩
end

section
open Go.RowKit

theorem few60 {l : List ByteArray} (h : fewB l 60 = true) : sm l := by
  simp only [fewB, Bool.and_eq_true, decide_eq_true_eq, List.all_eq_true] at h
  exact fun s hs => by have := h.1 s hs; omega
theorem mvL_len (l : List Int) (s most sign : Int) : (mvL l s most sign).length ≤ 1000 := by
  unfold mvL
  split
  · next h =>
    simp only [mvOk, Bool.and_eq_true, decide_eq_true_eq] at h
    rw [mvA_length]; exact h.1.1
  · simp
def KY (S : List (Int × Int)) (m : Nat) : Prop := (S.map (·.1)).Nodup ∧ ∀ s, s ∈ S → 1 ≤ s.1 ∧ s.1 ≤ m
theorem KY.off {S : List (Int × Int)} {m : Nat} (h : KY S m) (root : ByteArray) (opn : Bool) (s : Int × Int) (p : List ByteArray) : KY (offS root m S opn s p) m ∧ (offS root m S opn s p).length ≤ S.length + 1 := by
  unfold offS
  split
  · next he =>
    refine ⟨⟨?_, fun t ht => ?_⟩, by simp⟩
    · have hn : fnd S s.1 = none := by
        cases hf : fnd S s.1 with
        | none => rfl
        | some u =>
          unfold offE at he
          rw [hf] at he
          revert he
          repeat' split
          all_goals simp_all
      rw [List.map_append, List.nodup_append]
      refine ⟨h.1, by simp, fun a ha b hb => ?_⟩
      simp only [List.map_cons, List.map_nil, List.mem_singleton] at hb
      rw [hb]
      exact fun e => fnd_none.1 hn (e ▸ ha)
    · rcases List.mem_append.1 ht with h1 | h1
      · exact h.2 t h1
      · rw [List.mem_singleton.1 h1]
        have hc : shChk root m s p = true := by
          cases hc : shChk root m s p with
          | true => rfl
          | false =>
            unfold offE at he
            rw [hc] at he
            revert he
            repeat' split
            all_goals simp_all
        unfold shChk at hc
        simp only [Bool.and_eq_true, decide_eq_true_eq] at hc
        have := valid_nat hc.1.2
        omega
  · exact ⟨h, by omega⟩
theorem row_chg {F : List Nat} {w w' : World} {B e size n : Nat} {v : Value} {xs : List Value} (h : w.ownsRow B e size v n xs) (hc : Chg F w w') (hF : ∀ k, k ∈ F → k < B) : w'.ownsRow B e size v n xs := by
  refine ⟨h.1, ?_⟩
  rcases h.2 with hn | ⟨gg, cap, cur, rfl, hg, hgg, rest⟩
  · exact .inl hn
  · exact .inr ⟨gg, cap, cur, rfl, hg, (hc.block gg (by have := (Array.getElem?_eq_some_iff.1 hgg).1; exact this) (fun hm => by have := hF gg hm; omega)).trans hgg, rest⟩
theorem RV.chg {F : List Nat} {w w' : World} {base g need total : Nat} {root : ByteArray} {S : List (Int × Int)} {opn : Bool} (h : RV w base g need total root S opn) (hc : Chg F w w') (hF : ∀ k, k ∈ F → k < base) : RV w' base g need total root S opn := by
  obtain ⟨v, h1, h2, h3, h4⟩ := h
  exact ⟨v, (hc.block g h1.lt (fun hm => by have := hF g hm; omega)).trans h1, row_chg h2 hc hF, h3, h4⟩
theorem PV.base {w w' : World} {base g B need total : Nat} {root : ByteArray} {S : List (Int × Int)} {opn : Bool} (h : PV w g B need total root S opn) (hb : Below base w w') (hg : g < base) (hB : B < base) : PV w' g B need total root S opn :=
  h.kept (hb.block g hg) (hb.block B hB)
end

end Go.Proofs.YtdlgejofggbifaaGreatDoor
