/- The reference of layer 2: digests, length, Leaf, Root, Check. -/
import Derived.Test.YtbefcipeojahfaaGreatDoorTreeU02
import Derived.Test.YtbefcipeojahfaaGreatDoorRefIs01
import Derived.Test.YtbefcipeojahfaaGreatDoorTreeCk02
namespace Go.Proofs.YtbefcipeojahfaaGreatDoor
open Go.RowKit

set_option maxHeartbeats 4000000 in
theorem rdig_any (A : Option Addr) (c : Nat) (l : List ByteArray) (w : World) (h : Strs w A l) (hl : l.length ≤ 9223372036854775807) (hs : ∀ s ∈ l, s.size ≤ 1000000000) :
    Calls Tryz.prog 59 #[.slice A l.length c] w fun e w' => e = .returned (.bool (allD l)) ∧ w = w' := by
  have H := Lib.hid h
  have HSZ := Lib.hid hs
  have HIS := Lib.hid (fun (t : ByteArray) (ht : t.size ≤ 1000000000) => ris t ht w)
  clear h hs
  go_enter Tryz.func59, Tryz.ntmps59
  go_wp2_with fail
  go_loop [3] (fun u => ∃ k : Nat, k ≤ l.length ∧ u = .int .i64 k ∧ allD (l.take k) = true) (fun u => l.length - (intOf u).toNat)
  case atStart => exact ⟨0, Nat.zero_le _, rfl, rfl⟩
  case round =>
    obtain ⟨k, hk, rfl, hall⟩ := hrel
    have HALL := Lib.hid hall
    clear hall
    by_cases hlt : k < l.length
    · obtain ⟨s, hs⟩ := get_some l k hlt
      obtain ⟨b, off, rfl, c0⟩ := H.out.at_ hs
      have c0l := lt_of_cell c0
      have hmem : s ∈ l := List.mem_of_getElem? hs
      have HC := Lib.hid (HIS.out s (HSZ.out s hmem))
      have hall2 : allD (l.take (k + 1)) = isD s := by
        have := all_take_succ isD l k s hs
        have h2 := HALL.out
        unfold allD at h2 ⊢
        rw [this, h2, Bool.true_and]
      have HA2 := Lib.hid hall2
      have hbad : isD s = false → allD l = false := fun h => by
        unfold allD
        rw [List.all_eq_false]
        exact ⟨s, hmem, by simp [h]⟩
      have HBAD := Lib.hid hbad
      clear hs hall2 hbad hmem
      obtain ⟨v, hv⟩ : ∃ v, isD s = v := ⟨_, rfl⟩
      rw [hv] at HC HA2 HBAD
      clear hv
      cases v with
      | true =>
        go_wp2_with fail
        refine HC.out.mono ?_
        rintro e _ ⟨rfl, rfl⟩
        go_wp2
        go_round
        case rel => exact ⟨k + 1, by omega, by go_num, HA2.out⟩
        case measure => simp [intOf]; omega
      | false =>
        have HBD := Lib.hid (HBAD.out rfl)
        clear HBAD HA2
        go_wp2_with fail
        refine HC.out.mono ?_
        rintro e _ ⟨rfl, rfl⟩
        go_wp2
        go_ret
        exact ⟨ret_bool HBD.out.symm, rfl⟩
    · obtain rfl : k = l.length := by omega
      rw [List.take_length] at HALL
      go_wp2
      go_ret
      exact ⟨ret_bool HALL.out.symm, rfl⟩

set_option maxHeartbeats 4000000 in
theorem rlen_any (q : Nat) : ∀ (n i : Nat) (w : World), n ≤ q → 1 ≤ n → n ≤ 1000000 → i < n →
    Calls Tryz.prog 66 #[.int .i64 n, .int .i64 i] w fun e w' => e = .returned (.int .i64 (plen n i)) ∧ w = w' := by
  induction q with
  | zero => intro n i w h1 h2; omega
  | succ q ih =>
    intro n i w hn h1 hbig hi
    by_cases h2 : 2 ≤ n
    · have k1 := hf_lt n h2
      have k2 := hf_pos n
      have hpn := plen_lt_n n i h1
      obtain ⟨k, hk⟩ : ∃ k, hf n = k := ⟨_, rfl⟩
      have HH := Lib.hid (rhalf_any n hbig w)
      have h3 := plen_lt n i h2
      have h4 := plen_ge n i h2
      rw [hk] at HH k1 k2 h3 h4
      have hn1 : ((n : Int) == 1) = false := by simp; omega
      by_cases hik : i < k
      · have HI := Lib.hid (ih k i w (by omega) k2 (by omega) hik)
        rw [h3 hik] at hpn ⊢
        have hyi : (i : Int) < (k : Int) := by omega
        clear ih h3 h4 hk
        generalize plen k i = z at *
        go_enter Tryz.func66, Tryz.ntmps66
        go_wp2_with fail
        refine HH.out.mono ?_
        rintro e _ ⟨rfl, rfl⟩
        go_wp2_with fail
        refine HI.out.mono ?_
        rintro e _ ⟨rfl, rfl⟩
        go_wp2
        go_ret
        exact ⟨ret_int (by go_num), rfl⟩
      · have HI := Lib.hid (ih (n - k) (i - k) w (by omega) (by omega) (by omega) (by omega))
        rw [h4 hik] at hpn ⊢
        have hni : ¬ (i : Int) < (k : Int) := by omega
        have e1 : (n : Int) - (k : Int) = ((n - k : Nat) : Int) := by omega
        have e2 : (i : Int) - (k : Int) = ((i - k : Nat) : Int) := by omega
        have HE1 := Lib.hid e1
        have HE2 := Lib.hid e2
        clear ih h3 h4 hk e1 e2
        generalize plen (n - k) (i - k) = z at *
        go_enter Tryz.func66, Tryz.ntmps66
        go_wp2_with fail
        refine HH.out.mono ?_
        rintro e _ ⟨rfl, rfl⟩
        go_wp2_with fail
        rw [HE1.out, HE2.out]
        refine HI.out.mono ?_
        rintro e _ ⟨rfl, rfl⟩
        go_wp2
        go_ret
        exact ⟨ret_int (by go_num), rfl⟩
    · obtain rfl : n = 1 := by omega
      rw [plen_one 1 i (by omega)]
      clear ih
      go_enter Tryz.func66, Tryz.ntmps66
      go_wp2
      go_ret
      exact ⟨rfl, rfl⟩

theorem rleaf_any (a : ByteArray) (ha : a.size ≤ 200) (w : World) :
    Calls Tryz.prog 24 #[.string a] w fun e w' => e = .returned (.string (lf a)) ∧ Below w.heap.size w w' := by
  have HL := Lib.hid (rlist (some ⟨w.heap.size, 0, none⟩) 2 [bLeaf, a] (w.alloc (.cells #[.string bLeaf, .string a] 9)) (Strs_new _ _ _ _ _ rfl rfl) (by simp) (by
    intro s hs
    simp only [List.mem_cons, List.not_mem_nil, or_false] at hs
    rcases hs with rfl | rfl
    · decide
    · exact ha))
  unfold bLeaf at HL
  go_enter Tryz.func24, Tryz.ntmps24
  go_wp2_with fail
  refine HL.out.mono ?_
  rintro e w1 ⟨rfl, hb1⟩
  have HB1 := Lib.hid (below_trans (below_alloc (Below.refl _ _) _) hb1)
  clear hb1
  go_wp2
  go_ret
  exact ⟨rfl, HB1.out⟩

theorem rRoot_any (A : Option Addr) (c : Nat) (l : List ByteArray) (w : World) (hbig : l.length ≤ 100000) (hcap : l.length ≤ c) (hS : Strs w A l) (hsm : sm l) :
    Calls Tryz.prog 37 #[.slice A l.length c] w fun e w' => e = .returned (.tuple #[.string (if allD l then rt l else ByteArray.empty), .int .i64 (if allD l then 0 else 1)]) ∧ Below w.heap.size w w' := by
  have HD := Lib.hid (rdig_any A c l w hS (by omega) (fun s hs => by have := hsm s hs; omega))
  have HR := Lib.hid (rroot_any l.length A c l w (Nat.le_refl _) hbig hcap hS hsm)
  clear hS hsm
  cases hv : allD l
  all_goals rw [hv] at HD
  case false =>
    simp only [Bool.false_eq_true, if_false]
    go_enter Tryz.func37, Tryz.ntmps37
    go_wp2_with fail
    refine HD.out.mono ?_
    rintro e _ ⟨rfl, rfl⟩
    go_wp2
    go_ret2
    exact ⟨rfl, Below.refl _ _⟩
  case true =>
    simp only [if_true]
    go_enter Tryz.func37, Tryz.ntmps37
    go_wp2_with fail
    refine HD.out.mono ?_
    rintro e _ ⟨rfl, rfl⟩
    go_wp2_with fail
    refine HR.out.mono ?_
    rintro e w1 ⟨rfl, hb1⟩
    have HB1 := Lib.hid hb1
    clear hb1
    go_wp2
    go_ret2
    exact ⟨rfl, HB1.out⟩

set_option maxHeartbeats 8000000 in
theorem rcheck_any (root : ByteArray) (n i : Int) (leaf : ByteArray) (A : Option Addr) (c : Nat) (p : List ByteArray) (w : World) (hS : Strs w A p) (hbig : p.length ≤ 1000000) (hcap : p.length ≤ c) (hleaf : leaf.size ≤ 200) (hsm : sm p) :
    Calls Tryz.prog 39 #[.string root, .int .i64 n, .int .i64 i, .string leaf, .slice A p.length c] w fun e w' => e = .returned (.bool (chkB root n i leaf p)) ∧ Below w.heap.size w w' := by
  have hno : ¬ (n ≤ 1000000 ∧ 0 ≤ i ∧ i < n) → chkB root n i leaf p = false := fun h => by unfold chkB; rw [decide_eq_false h]; simp
  have HNO := Lib.hid hno
  clear hno
  by_cases h1 : 1000000 < n
  · have hres := HNO.out (by omega)
    have hd1 : decide (1000000 < n) = true := decide_eq_true h1
    have HRES := Lib.hid hres
    clear hS hsm hres
    go_enter Tryz.func39, Tryz.ntmps39
    go_wp2
    go_ret
    exact ⟨ret_bool (HRES.out).symm, Below.refl _ _⟩
  have hd1 : decide (1000000 < n) = false := decide_eq_false h1
  by_cases h2 : i < 0
  · have HRES := Lib.hid (HNO.out (by omega))
    have hd2 : decide (i < 0) = true := decide_eq_true h2
    clear hS hsm
    go_enter Tryz.func39, Tryz.ntmps39
    go_wp2
    go_ret
    exact ⟨ret_bool (HRES.out).symm, Below.refl _ _⟩
  have hd2 : decide (i < 0) = false := decide_eq_false h2
  by_cases h3 : n ≤ i
  · have HRES := Lib.hid (HNO.out (by omega))
    have hd3 : decide (n ≤ i) = true := decide_eq_true h3
    clear hS hsm
    go_enter Tryz.func39, Tryz.ntmps39
    go_wp2
    go_ret
    exact ⟨ret_bool (HRES.out).symm, Below.refl _ _⟩
  obtain ⟨N, rfl⟩ : ∃ N : Nat, n = N := ⟨n.toNat, by omega⟩
  obtain ⟨I, rfl⟩ : ∃ I : Nat, i = I := ⟨i.toNat, by omega⟩
  have hd3 : decide (N ≤ I) = false := decide_eq_false (by omega)
  have hd4 : decide ((N : Int) ≤ (I : Int)) = false := decide_eq_false (by omega)
  have hd5 : decide (1000000 < N) = false := decide_eq_false (by omega)
  have HLEN := Lib.hid (rlen_any N N I w (Nat.le_refl _) (by omega) (by omega) (by omega))
  have HDG := Lib.hid (rdig_any A c p w hS (by omega) (fun s hs => by have := hsm s hs; omega))
  have HIS := Lib.hid (ris leaf (by omega) w)
  have hval : chkB root (N : Int) (I : Int) leaf p = (allD p && isD leaf && (decide (upv N I leaf p = root) && decide (p.length = plen N I))) := by
    unfold chkB
    rw [decide_eq_true (⟨by omega, by omega, by omega⟩ : (N : Int) ≤ 1000000 ∧ (0 : Int) ≤ I ∧ (I : Int) < N), Bool.true_and, Int.toNat_natCast, Int.toNat_natCast]
  have HUP : Hid (p.length = plen N I → Calls Tryz.prog 47 #[.int .i64 N, .int .i64 I, .string leaf, .slice A p.length c] w fun e w' => e = .returned (.string (upv N I leaf p)) ∧ Below w.heap.size w w') := Lib.hid (fun h => rup_any N N I leaf A c p w (Nat.le_refl _) (by omega) (by omega) (by omega) h hcap hS hsm hleaf)
  rw [hval]
  clear hS hsm HNO hval
  generalize upv N I leaf p = u at *
  generalize allD p = dp at *
  generalize isD leaf = dl at *
  obtain ⟨z, hz⟩ : ∃ z, plen N I = z := ⟨_, rfl⟩
  rw [hz] at HLEN HUP ⊢
  clear hz
  generalize p.length = m at *
  by_cases hlen : m = z
  case neg =>
    have hne : ((m : Int) == (z : Int)) = false := by simp; omega
    have hne0 : (m == z) = false := by simp; omega
    have hbn : ((m : Int) != (z : Int)) = true := by rw [bne, hne]; rfl
    have hres : (dp && dl && (decide (u = root) && decide (m = z))) = false := by rw [decide_eq_false hlen]; simp
    have HRES := Lib.hid hres
    clear hres
    go_enter Tryz.func39, Tryz.ntmps39
    go_wp2_with fail
    refine HLEN.out.mono ?_
    rintro e _ ⟨rfl, rfl⟩
    go_wp2
    go_ret
    exact ⟨ret_bool (HRES.out).symm, Below.refl _ _⟩
  case pos =>
  subst hlen
  have HUP1 := Lib.hid (HUP.out rfl)
  clear HUP
  rw [decide_eq_true (rfl : m = m), Bool.and_true]
  cases dp
  case false =>
    rw [Bool.false_and, Bool.false_and]
    go_enter Tryz.func39, Tryz.ntmps39
    go_wp2_with fail
    refine HLEN.out.mono ?_
    rintro e _ ⟨rfl, rfl⟩
    go_wp2_with fail
    refine HDG.out.mono ?_
    rintro e _ ⟨rfl, rfl⟩
    go_wp2
    go_ret
    exact ⟨rfl, Below.refl _ _⟩
  case true =>
  cases dl
  case false =>
    rw [Bool.true_and, Bool.false_and]
    go_enter Tryz.func39, Tryz.ntmps39
    go_wp2_with fail
    refine HLEN.out.mono ?_
    rintro e _ ⟨rfl, rfl⟩
    go_wp2_with fail
    refine HDG.out.mono ?_
    rintro e _ ⟨rfl, rfl⟩
    go_wp2_with fail
    refine HIS.out.mono ?_
    rintro e _ ⟨rfl, rfl⟩
    go_wp2
    go_ret
    exact ⟨rfl, Below.refl _ _⟩
  case true =>
  rw [Bool.true_and, Bool.true_and]
  by_cases hu : u = root
  case pos =>
    subst hu
    have t1 := beq_true u
    rw [decide_eq_true rfl]
    go_enter Tryz.func39, Tryz.ntmps39
    go_wp2_with fail
    refine HLEN.out.mono ?_
    rintro e _ ⟨rfl, rfl⟩
    go_wp2_with fail
    refine HDG.out.mono ?_
    rintro e _ ⟨rfl, rfl⟩
    go_wp2_with fail
    refine HIS.out.mono ?_
    rintro e _ ⟨rfl, rfl⟩
    go_wp2_with fail
    refine HUP1.out.mono ?_
    rintro e w1 ⟨rfl, hb1⟩
    have HB1 := Lib.hid hb1
    clear hb1
    go_wp2
    go_ret
    exact ⟨rfl, HB1.out⟩
  case neg =>
  obtain ⟨t1, t2⟩ := bne_of u root hu
  rw [decide_eq_false hu]
  go_enter Tryz.func39, Tryz.ntmps39
  go_wp2_with fail
  refine HLEN.out.mono ?_
  rintro e _ ⟨rfl, rfl⟩
  go_wp2_with fail
  refine HDG.out.mono ?_
  rintro e _ ⟨rfl, rfl⟩
  go_wp2_with fail
  refine HIS.out.mono ?_
  rintro e _ ⟨rfl, rfl⟩
  go_wp2_with fail
  refine HUP1.out.mono ?_
  rintro e w1 ⟨rfl, hb1⟩
  have HB1 := Lib.hid hb1
  clear hb1
  go_wp2
  go_ret
  exact ⟨rfl, HB1.out⟩

end Go.Proofs.YtbefcipeojahfaaGreatDoor
