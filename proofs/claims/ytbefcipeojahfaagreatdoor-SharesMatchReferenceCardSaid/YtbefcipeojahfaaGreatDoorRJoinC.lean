/- append inside a region that draws (a step of wpAnyH). Join of the reference at all arguments. -/
import Derived.Test.YtbefcipeojahfaaGreatDoorBase
import Derived.Test.YtbefcipeojahfaaGreatDoorRef04
import Derived.Deep.RegionHeld3
import Derived.Test.YtbefcipeojahfaaGreatDoorRFld
import Derived.Test.YtbefcipeojahfaaGreatDoorShTx07
import Derived.Test.YtbefcipeojahfaaGreatDoorJoinL
namespace Go.Proofs.YtbefcipeojahfaaGreatDoor

section
open Go.RowKit

theorem step_app {P : Program} (w : World) {ops : Array Oper} {o : Oper} {a : Act} {K : Act → World → Prop} {Q : Exit → Act → World → Prop} {E : Prop} (hw : Region.wanted o (yielded ops a.tmps) = true) (s x : Operand) (t t2 : TypeId)
    (ho : o.op = .call { callee := .builtin .append, args := #[s, x], argTypes := #[t, t2] })
    (base : Nat) (e e2 : TypeId) (i : TypeInfo) (z : Value) (size bytes : Nat) (ht : P.underlying t = some (.slice e)) (ht2 : P.underlying t2 = some (.slice e2)) (hi : P.info? e = some i) (hz : i.zero = some z)
    (hsize : i.size = size) (hby : i.bytes = bytes) (hzs : z.cells.size = size) (hsz : 0 < size)
    (v : Value) (n : Nat) (xs : List Value) (hs : a.eval s = v) (hown : w.ownsRow base e size v n xs)
    (A : Option Addr) (m c : Nat) (news : List Value) (hx : a.eval x = .slice A m c) (hr : Rd w size A m news) (h1 : ∀ u ∈ news, u.oneCell' = true)
    (h63 : n + m ≤ maxLen) (hbytes : (n + m) * bytes ≤ 140737488355328) (hbase : base ≤ w.heap.size)
    (h : ∀ v' w', w'.ownsRow base e size v' (n + m) (xs ++ news) → w.grownBy w' v.ownBlock → K (a.put o.dst v') w') :
    if Region.wanted o (yielded ops a.tmps) = true then Oper.wp P o a w K Q else E := by
  rw [if_pos hw]
  obtain ⟨v', w', hrun, h2, h3⟩ := run_app (P := P) w base t t2 o.type e e2 i z size bytes ht ht2 hi hz hsize hby hzs hsz v n xs hown A m c news hr h1 h63 hbytes hbase
  unfold Oper.wp execOp
  simp only [ho, resolve, invoke, builtin, Sem.run_bind, Sem.run_pure, Result.andThen_ok, List.map_toArray, List.map_cons, List.map_nil, hs, hx, hrun]
  exact h v' w' h2 h3
end

section
open Go.RowKit

theorem nd_snoc (l : List (Int × Int)) (i : Nat) (s : Int × Int) (hs : l[i]? = some s) (hnd : ((l.take i).map (·.1)).Nodup) (hne : ∀ (j : Nat) (t : Int × Int), j < i → l[j]? = some t → t.1 ≠ s.1) : ((l.take (i + 1)).map (·.1)).Nodup := by
  rw [take_snoc l i s hs, List.map_append, List.nodup_append]
  refine ⟨hnd, by simp, ?_⟩
  intro a ha b hb e
  simp only [List.map_cons, List.map_nil, List.mem_singleton] at hb
  obtain ⟨t, ht, rfl⟩ := List.mem_map.1 ha
  obtain ⟨j, hj⟩ := List.getElem?_of_mem ht
  rw [List.getElem?_take] at hj
  split at hj
  · next h => exact hne j t h hj (by rw [e, hb])
  · cases hj
theorem nd_not (l : List (Int × Int)) (i j : Nat) (s t : Int × Int) (hj : j < i) (hs : l[i]? = some s) (ht : l[j]? = some t) (he : t.1 = s.1) : ¬ (l.map (·.1)).Nodup := by
  intro hnd
  exact nodup_ne hnd j i t.1 s.1 (by rw [List.getElem?_map, ht]; rfl) (by rw [List.getElem?_map, hs]; rfl) hj he

set_option maxRecDepth 100000 in
set_option maxHeartbeats 32000000 in
theorem rjoin_all (A : Option Addr) (c : Nat) (l : List (Int × Int)) (need : Int) (w : World) (hA : Prs w A l) (hlen : l.length ≤ 1000000) :
    Calls Tryz.prog 10 #[.slice A l.length c, .int .i64 need] w fun e w' =>
      e = .returned (.tuple #[.int .i64 (joinF l need).1, .int .i64 (joinF l need).2]) ∧ Below w.heap.size w w' := by
  by_cases hneed : need < 1 ∨ 16 < need
  · have hJ := Lib.hid (joinF_need l need hneed)
    rcases hneed with hneed | hneed
    · go_enter Tryz.func10, Tryz.ntmps10
      go_wp2
      go_ret2
      rw [hJ.out]
      exact ⟨rfl, Below.refl _ _⟩
    · go_enter Tryz.func10, Tryz.ntmps10
      go_wp2
      go_ret2
      rw [hJ.out]
      exact ⟨rfl, Below.refl _ _⟩
  have hn1 : 1 ≤ need := by omega
  have hn16 : need ≤ 16 := by omega
  clear hneed
  obtain ⟨n, rfl⟩ := Int.eq_ofNat_of_zero_le (show 0 ≤ need by omega)
  have HA := Lib.hid hA; clear hA
  obtain ⟨i2, hi2, hy0, hy1, hy2⟩ := info_parts info_point
  have HI2 := Lib.hid (And.intro hi2 (And.intro hy0 (And.intro hy1 hy2)))
  clear hi2 hy0 hy1 hy2
  go_enter Tryz.func10, Tryz.ntmps10
  go_wp2_with fail
  go_loopw [6] (fun u6 wr => ∃ k : Nat, k ≤ l.length ∧ u6 = .int .i64 k ∧ (l.take k).all validB = true ∧ Below w.heap.size w wr) (fun u6 _ => l.length - (intOf u6).toNat)
  case atStart => exact ⟨0, Nat.zero_le _, rfl, rfl, Below.refl _ _⟩
  case round =>
  obtain ⟨k, hk, rfl, hall, hbw⟩ := hrel
  have HALL := Lib.hid hall
  have HBW := Lib.hid hbw
  clear hall hbw
  by_cases hlt : k < l.length
  case pos =>
    obtain ⟨s, hs⟩ := get_some l k hlt
    obtain ⟨b, off, rfl, hc1, hc2⟩ := (HA.out.below HBW.out).at_ hs
    have hcl := lt_of_cell hc1
    have HS := Lib.hid hs
    clear hs
    cases hvs : validB s
    case false =>
      have HVS := Lib.hid hvs
      have HJ := Lib.hid (joinF_bad l n hn1 hn16 (all_false_of validB l k s HS.out hvs))
      clear hvs
      go_wp2_with fail
      refine (rvalid_any s.1 s.2 _).mono ?_
      rintro e w' ⟨rfl, rfl⟩
      rw [HVS.out]
      go_wp2
      go_ret2
      rw [HJ.out]
      exact ⟨rfl, below_alloc HBW.out _⟩
    case true =>
      have HVS := Lib.hid hvs
      clear hvs
      go_wp2_with fail
      refine (rvalid_any s.1 s.2 _).mono ?_
      rintro e w' ⟨rfl, rfl⟩
      rw [HVS.out]
      go_wp2
      go_roundw
      case rel => exact ⟨k + 1, by omega, by go_num, by rw [all_take_succ _ _ _ _ HS.out, HALL.out, HVS.out]; rfl, below_alloc HBW.out _⟩
      case measure => simp [intOf]; omega
  case neg =>
  obtain rfl : k = l.length := by omega
  rw [List.take_length] at HALL
  have HVA := HALL
  have HB1 := HBW
  have HO0 : Hid (wr.ownsRow wr.heap.size 60 2 (.slice none 0 0) 0 []) := ⟨rfl, .inl ⟨rfl, rfl⟩⟩
  clear HALL HBW
  go_wp2_with fail
  obtain ⟨w1, rfl⟩ : ∃ w1 : World, w1 = wr := ⟨_, rfl⟩
  go_loopw [7, 8, 9] (fun u7 u8 _ wr => ∃ i q : Nat, i ≤ l.length ∧ q = min i n ∧ u8 = .int .i64 i ∧ Below w1.heap.size w1 wr ∧ ((l.take i).map (·.1)).Nodup ∧ wr.ownsRow w1.heap.size 60 2 u7 q (flat2 (l.take q))) (fun _ u8 _ _ => l.length - (intOf u8).toNat)
  case atStart => exact ⟨0, 0, Nat.zero_le _, by omega, rfl, Below.refl _ _, by simp, HO0.out⟩
  case round =>
  obtain ⟨i, q, hi, hq, rfl, hb, hnd, ho⟩ := hrel
  have HB := Lib.hid hb
  have HND := Lib.hid hnd
  have HO := Lib.hid ho
  have HQ := Lib.hid hq
  clear hb hnd ho hq
  by_cases hil : i < l.length
  case pos =>
    obtain ⟨s, hs⟩ := get_some l i hil
    have HS := Lib.hid hs
    clear hs
    go_wp2_with fail
    obtain ⟨wi, rfl⟩ : ∃ wi : World, wi = wr := ⟨_, rfl⟩
    go_loopw [9] (fun u9 W => ∃ j : Nat, j ≤ i ∧ u9 = .int .i64 j ∧ Below wi.heap.size wi W ∧ (∀ (j' : Nat) (t : Int × Int), j' < j → l[j']? = some t → t.1 ≠ s.1)) (fun u9 _ => i - (intOf u9).toNat)
    case atStart => exact ⟨0, Nat.zero_le _, rfl, Below.refl _ _, fun j' t h => absurd h (by omega)⟩
    case round =>
    obtain ⟨j, hj, rfl, hbj, hne⟩ := hrel
    have HBJ := Lib.hid hbj
    have HNE := Lib.hid hne
    clear hbj hne
    have HPW := Lib.hid (((HA.out.below HB1.out).below HB.out).below HBJ.out)
    by_cases hji : j < i
    case pos =>
      obtain ⟨t, ht⟩ := get_some l j (by omega)
      obtain ⟨b, off, rfl, hc1, hc2⟩ := HPW.out.at_ ht
      obtain ⟨b', off', he, hd1, hd2⟩ := HPW.out.at_ HS.out
      cases he
      have hcl := lt_of_cell hc1
      have HTJ := Lib.hid ht
      clear ht hc2 hd2
      by_cases hts : t.1 = s.1
      case pos =>
        have e1 : (t.1 == s.1) = true := by simp [hts]
        have HJ := Lib.hid (joinF_dup l n hn1 hn16 HVA.out (nd_not l i j s t hji HS.out HTJ.out hts))
        clear hts
        go_wp2_with fail
        go_quiet (fail)
        go_wp2
        go_ret2
        rw [HJ.out]
        exact ⟨rfl, below_drewN (below_trans HB1.out (below_trans HB.out HBJ.out)) _⟩
      case neg =>
        have e1 : (t.1 == s.1) = false := by simp [hts]
        have HTS : Hid (t.1 ≠ s.1) := Lib.hid hts
        clear hts
        go_wp2_with fail
        go_quiet (fail)
        go_wp2
        go_roundw
        case rel =>
          refine ⟨j + 1, by omega, by go_num, below_drewN HBJ.out _, fun j' t' hj' ht' => ?_⟩
          by_cases hjj : j' = j
          · rw [hjj, HTJ.out] at ht'
            cases ht'
            exact HTS.out
          · exact HNE.out j' t' (by omega) ht'
        case measure => simp [intOf]; omega
    case neg =>
    obtain rfl : j = i := by omega
    have HND2 := Lib.hid (nd_snoc l j s HS.out HND.out HNE.out)
    have HOJ := Lib.hid (row_below HO.out HBJ.out)
    have HBI := Lib.hid (below_trans HB.out HBJ.out)
    clear HND HNE HO HB HBJ
    by_cases hin : j < n
    case pos =>
      obtain rfl : j = q := by have := HQ.out; omega
      clear HQ
      obtain ⟨b, off, rfl, hd1, hd2⟩ := (HA.out.below HB1.out).at_ HS.out
      have HC1 := Lib.hid hd1
      have HC2 := Lib.hid hd2
      clear hd1 hd2
      go_wp2_with fail
      refine wp_region_held_drew (S := fun W => Below w1.heap.size w1 W) (by kernel_rfl) (HBI.out.drew) (fun hS0 => ?_)
      refine wpAnyH_take (i := 0) (v := ?_) rfl (by kernel_rfl) (by kernel_rfl) (by kernel_rfl) (fun _ _ _ h => h) (Or.inl ⟨by kernel_rfl, ?hy⟩) hS0 ?rest
      case hy => (intro W hSw; clear hSw; go_simp; try with_reducible rfl)
      case rest =>
      refine wpAnyH_take (i := 1) (v := ?_) rfl (by kernel_rfl) (by kernel_rfl) (by kernel_rfl) (fun _ _ _ h => h) (Or.inl ⟨by kernel_rfl, ?hy⟩) hS0 ?rest
      case hy => (intro W hSw; clear hSw; go_simp; try with_reducible rfl)
      case rest =>
      refine wpAnyH_take (i := 2) (v := ?_) rfl (by kernel_rfl) (by kernel_rfl) (by kernel_rfl) (fun _ _ _ h => h) (Or.inl ⟨by kernel_rfl, ?hy⟩) hS0 ?rest
      case hy => (intro W hSw; clear hSw; go_simp; try with_reducible rfl)
      case rest =>
      refine wpAnyH_take (i := 3) (v := ?_) rfl (by kernel_rfl) (by kernel_rfl) (by kernel_rfl) (fun _ _ _ h => h) (Or.inl ⟨by kernel_rfl, ?hy⟩) hS0 ?rest
      case hy => (intro W hSw; clear hSw; go_simp; try with_reducible rfl)
      case rest =>
      refine wpAnyH_take (i := 4) (v := ?_) rfl (by kernel_rfl) (by kernel_rfl) (by kernel_rfl) (fun _ _ _ h => h) (Or.inl ⟨by kernel_rfl, ?hy⟩) hS0 ?rest
      case hy => (intro W hSw; clear hSw; go_simp; try with_reducible rfl)
      case rest =>
      refine wpAnyH_take (i := 5) (v := ?_) rfl (by kernel_rfl) (by kernel_rfl) (by kernel_rfl) (fun _ _ _ h => h) (Or.inl ⟨by kernel_rfl, ?hy⟩) hS0 ?rest
      case hy => (intro W hSw; have q := kept_cell hSw HC1.out; have ql := lt_of_cell q; clear hSw; go_simp; try with_reducible rfl)
      case rest =>
      refine wpAnyH_take (i := 6) (v := ?_) rfl (by kernel_rfl) (by kernel_rfl) (by kernel_rfl) (fun _ _ _ h => h) (Or.inl ⟨by kernel_rfl, ?hy⟩) hS0 ?rest
      case hy => (intro W hSw; clear hSw; go_simp; try with_reducible rfl)
      case rest =>
      refine wpAnyH_take (i := 7) (v := ?_) rfl (by kernel_rfl) (by kernel_rfl) (by kernel_rfl) (fun _ _ _ h => h) (Or.inl ⟨by kernel_rfl, ?hy⟩) hS0 ?rest
      case hy => (intro W hSw; clear hSw; go_simp; try with_reducible rfl)
      case rest =>
      refine wpAnyH_take (i := 8) (v := ?_) rfl (by kernel_rfl) (by kernel_rfl) (by kernel_rfl) (fun _ _ _ h => h) (Or.inl ⟨by kernel_rfl, ?hy⟩) hS0 ?rest
      case hy => (intro W hSw; clear hSw; go_simp; try with_reducible rfl)
      case rest =>
      refine wpAnyH_take (i := 9) (v := ?_) rfl (by kernel_rfl) (by kernel_rfl) (by kernel_rfl) (fun _ _ _ h => h) (Or.inl ⟨by kernel_rfl, ?hy⟩) hS0 ?rest
      case hy => (intro W hSw; clear hSw; go_simp; try with_reducible rfl)
      case rest =>
      refine wpAnyH_take (i := 10) (v := ?_) rfl (by kernel_rfl) (by kernel_rfl) (by kernel_rfl) (fun _ _ _ h => h) (Or.inl ⟨by kernel_rfl, ?hy⟩) hS0 ?rest
      case hy => (intro W hSw; have q := kept_cell hSw HC2.out; have ql := lt_of_cell q; clear hSw; go_simp; try with_reducible rfl)
      case rest =>
      refine wpAnyH_take (i := 11) (v := ?_) rfl (by kernel_rfl) (by kernel_rfl) (by kernel_rfl) (fun _ _ _ h => h) (Or.inl ⟨by kernel_rfl, ?hy⟩) hS0 ?rest
      case hy => (intro W hSw; clear hSw; go_simp; try with_reducible rfl)
      case rest =>
      refine wpAnyH_ready (rs := [12]) (by kernel_rfl) (by simp) ?_
      refine AllReadyH.cons rfl (fun K hK => ?_) (AllReadyH.nil)
      go_simp
      refine hK.out _ _ (below_alloc hS0 _) (fun hS1 => ?_)
      clear hK K
      have HO3 : Hid ((wr.drew.alloc (.cells #[.int .i64 s.1, .int .i64 s.2] 60)).ownsRow w1.heap.size 60 2 u7 j (flat2 (l.take j))) := Lib.hid (row_below (row_below HOJ.out (Below.drew (Below.refl _ _))) (below_alloc (Below.refl _ _) _))
      refine wpAnyH_ready (rs := [13]) (by kernel_rfl) (by simp) ?_
      refine AllReadyH.cons rfl (fun K hK => ?_) (AllReadyH.nil)
      refine step_app (wr.drew.alloc (.cells #[.int .i64 s.1, .int .i64 s.2] 60)) (by kernel_rfl) (.tmp 58) (.tmp 70) 58 58 rfl w1.heap.size 60 60 i2 _ 2 16 Tryz.underlying58 Tryz.underlying58 HI2.out.1 HI2.out.2.1 HI2.out.2.2.1 HI2.out.2.2.2 rfl (by omega) u7 j _ (by kernel_rfl) HO3.out (some ⟨wr.heap.size, 0, none⟩) 1 1 [.int .i64 s.1, .int .i64 s.2] (by kernel_rfl) (Rd_new wr.drew #[.int .i64 s.1, .int .i64 s.2] _ 2 1 _ rfl rfl) (by simp [Value.oneCell']) (by simp only [maxLen]; omega) (by omega) (by have := HBI.out.size; simp; omega) ?_
      intro v4 w4 hown4 hg4
      have HB4 : Hid (Below w1.heap.size w1 w4) := Lib.hid ((below_alloc (HBI.out.drew) _).grown hg4 (by have := HBI.out.size; simp; omega) (fun j hj => (HO3.out.lt j hj).1))
      have HO4 := Lib.hid hown4
      clear hown4 hg4
      refine hK.out _ _ HB4.out (fun hS2 => ?_)
      clear hK K
      refine wpAnyH_take (i := 14) (v := ?_) rfl (by kernel_rfl) (by kernel_rfl) (by kernel_rfl) (fun _ _ _ h => h) (Or.inl ⟨by kernel_rfl, ?hy⟩) hS2 ?rest
      case hy => (intro W hSw; clear hSw; go_simp; try with_reducible rfl)
      case rest =>
      refine wpAnyH_done (by kernel_rfl) ?_ _
      clear hS0 hS1 hS2
      go_wp2
      go_roundw
      case rel => exact ⟨j + 1, j + 1, by omega, by omega, by go_num, HB4.out, HND2.out, by rw [take_snoc _ _ _ HS.out, flat2_append]; exact HO4.out⟩
      case measure => simp [intOf]; omega
    case neg =>
      obtain rfl : q = n := by have := HQ.out; omega
      go_wp2
      go_roundw
      case rel => exact ⟨j + 1, q, by omega, by omega, by go_num, HBI.out, HND2.out, HOJ.out⟩
      case measure => simp [intOf]; omega
  case neg =>
  obtain rfl : i = l.length := by omega
  rw [List.take_length] at HND
  by_cases hfew : l.length < n
  case pos =>
    have HJ := Lib.hid (joinF_few l n hn1 hn16 HVA.out HND.out (by omega))
    go_wp2
    go_ret2
    rw [HJ.out]
    exact ⟨rfl, below_trans HB1.out HB.out⟩
  case neg =>
  have hnl : n ≤ l.length := by omega
  obtain rfl : q = n := by have := HQ.out; omega
  clear HQ
  obtain ⟨A3, c3, rfl, hc3, hm3, hrd3⟩ := Rd.of_own HO.out
  have eql : (l.take q).length = q := List.length_take_of_le hnl
  have hP3 : Prs wr A3 (l.take q) := by
    unfold Prs; rw [eql]; exact hrd3
  have hgood : Good (l.take q) := (good_of l HVA.out HND.out).take q
  have hcall : ∀ (x : Int), elemB x = true → ∀ W, Below wr.heap.size wr W → Calls Tryz.prog 33 #[.slice A3 q c3, .int .i64 x] W fun e w' =>
      e = .returned (.tuple #[.int .i64 (nv x (l.take q) (q - 1) 0), .int .i64 0]) ∧ Below W.heap.size W w' := by
    intro x hx W hW
    have h := rinterp_any A3 c3 (l.take q) x W (hP3.below hW) (by rw [eql]; omega) (by rw [eql]; omega) hx hgood
    rw [eql] at h
    exact h
  have HCALL := Lib.hid hcall
  have HEL : Hid (∀ s, s ∈ l → elemB s.1 = true) := Lib.hid (fun s hs => by
    have := (validB_iff s).1 (List.all_eq_true.1 HVA.out s hs)
    rw [elemB_iff]; omega)
  have HPW := Lib.hid ((HA.out.below HB1.out).below HB.out)
  have HB0 := Lib.hid (below_trans HB1.out HB.out)
  clear hP3 hrd3 hcall hgood eql hc3 hm3 HO
  go_wp2_with fail
  obtain ⟨w5, rfl⟩ : ∃ w5 : World, w5 = wr := ⟨_, rfl⟩
  go_loopw [10, 11, 12] (fun u10 _ _ wr => ∃ r : Nat, r ≤ l.length - q ∧ u10 = .int .i64 ((q + r : Nat) : Int) ∧ Below w5.heap.size w5 wr ∧ ∀ s, s ∈ (l.drop q).take r → nv s.1 (l.take q) (q - 1) 0 = s.2) (fun u10 _ _ _ => l.length - (intOf u10).toNat)
  case atStart => exact ⟨0, Nat.zero_le _, rfl, Below.refl _ _, by simp⟩
  case round =>
  obtain ⟨r, hr, rfl, hB5, hok⟩ := hrel
  have HB5 := Lib.hid hB5; clear hB5
  have HOK := Lib.hid hok; clear hok
  by_cases hrl : q + r < l.length
  case pos =>
    obtain ⟨s, hs⟩ := get_some l (q + r) hrl
    have hsd : (l.drop q)[r]? = some s := by rw [List.getElem?_drop]; exact hs
    obtain ⟨b, off, rfl, hc1, hc2⟩ := (HPW.out.below HB5.out).at_ hs
    have hcl := lt_of_cell hc1
    have HCA := Lib.hid (HCALL.out s.1 (HEL.out s (List.mem_of_getElem? hs)) wr HB5.out)
    have HC2 : Hid (∀ W, Below wr.heap.size wr W → W.cell? ⟨b, off + (q + r) * 2 + 1, none⟩ = some (.int .i64 s.2)) := Lib.hid (fun W hW => kept_cell hW hc2)
    have HSD := Lib.hid hsd
    clear hs hsd hc2
    obtain ⟨z, hz⟩ : ∃ z : Nat, z = q + r := ⟨_, rfl⟩
    rw [← hz] at hc1 HC2 hrl ⊢
    have HZ := Lib.hid hz
    clear hz
    go_wp2_with fail
    refine HCA.out.mono ?_
    rintro e w6 ⟨rfl, hb6⟩
    have hc2 := HC2.out w6 hb6
    have hcl2 := lt_of_cell hc2
    have HB7 := Lib.hid (below_trans HB5.out hb6)
    clear hb6 hc1
    by_cases hy : nv s.1 (l.take q) (q - 1) 0 = s.2
    case pos =>
      have HY := Lib.hid hy
      have hy' : (nv s.1 (l.take q) (q - 1) 0 == s.2) = true := by simpa using hy
      have hy'' : (nv s.1 (l.take q) (q - 1) 0 != s.2) = false := by simpa using hy
      clear hy
      go_wp2
      go_roundw
      case rel =>
        refine ⟨r + 1, by have := HZ.out; omega, by rw [HZ.out]; go_num, HB7.out, fun t ht => ?_⟩
        rw [take_snoc _ r s HSD.out] at ht
        rcases List.mem_append.1 ht with ht | ht
        · exact HOK.out t ht
        · rw [List.mem_singleton.1 ht]; exact HY.out
      case measure => simp [intOf]; omega
    case neg =>
      have hj := joinF_wrong l q (by omega) (by omega) HVA.out HND.out hnl r s HSD.out hy
      have HJ := Lib.hid hj; clear hj
      have hy' : (nv s.1 (l.take q) (q - 1) 0 == s.2) = false := by simpa using hy
      have hy'' : (nv s.1 (l.take q) (q - 1) 0 != s.2) = true := by simpa using hy
      clear hy
      go_wp2
      go_ret2
      rw [HJ.out]
      exact ⟨rfl, below_trans HB0.out HB7.out⟩
  case neg =>
    have hall : ∀ s, s ∈ l.drop q → nv s.1 (l.take q) (q - 1) 0 = s.2 := by
      have := HOK.out
      rwa [List.take_of_length_le (by rw [List.length_drop]; omega)] at this
    have hj := joinF_ok l q (by omega) (by omega) HVA.out HND.out hnl hall
    have HJ := Lib.hid hj; clear hj hall
    have hge : ¬ ((q + r : Nat) : Int) < (l.length : Int) := by omega
    have HC0 := Lib.hid (HCALL.out 0 rfl wr HB5.out)
    go_wp2_with fail
    refine HC0.out.mono ?_
    rintro e w6 ⟨rfl, hb6⟩
    have HB6 := Lib.hid hb6; clear hb6
    go_wp2
    go_ret2
    rw [HJ.out]
    exact ⟨rfl, below_trans HB0.out (below_trans HB5.out HB6.out)⟩
end

end Go.Proofs.YtbefcipeojahfaaGreatDoor
