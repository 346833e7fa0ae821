/- The contract of shares.Join, at every list. Several texts in one: Poly, Poly2, JoinL. The law SharesRecover: its walk. Plain: what Join computes does not depend on the order of the shares. Plain: keepers: seeds and their salts, leaves, shares; what is valid; what is bound. A slice of strings as an argument. Arguments of chapter 7's laws: a share, a list of shares, a list of numbers. Rows of structs as lists: openings, kept shares, commitments, keepers; as arguments, and as the call's own. Split of the program where an element is not of the field. keeper: within, the seeds' and the shares' validity, salts, leaves. -/
import Derived.Test.YtjfondfjdhjooaaGreatDoorCbC
import Derived.StillTailTactics
import Derived.Deep.RegionHeld3
namespace Go.Proofs.YtjfondfjdhjooaaGreatDoor
set_option linter.unusedVariables false
set_option linter.unusedSimpArgs false

section
open Go.RowKit

/-! ### plain: how often a place occurs -/
def cnt (l : List (Int × Int)) (k : Nat) (j : Nat) : Int := ((l.take k).map (·.1)).count (j : Int)

theorem cnt_zero (l : List (Int × Int)) (j : Nat) : cnt l 0 j = 0 := by simp [cnt]

theorem cnt_succ (l : List (Int × Int)) (k : Nat) (s : Int × Int) (hs : l[k]? = some s) (j : Nat) : cnt l (k + 1) j = cnt l k j + if (j : Int) = s.1 then 1 else 0 := by
  unfold cnt
  rw [take_snoc l k s hs, List.map_append, List.count_append]
  by_cases h : (j : Int) = s.1
  · simp [h]
  · have : ¬ s.1 = (j : Int) := fun e => h e.symm
    simp [h, this]

theorem cnt_le (l : List (Int × Int)) (k j : Nat) : 0 ≤ cnt l k j ∧ cnt l k j ≤ k := by
  unfold cnt
  have h1 := List.count_le_length (a := (j : Int)) (l := (l.take k).map (·.1))
  have h2 := List.length_take_le k l
  rw [List.length_map] at h1
  omega

theorem validB_iff (s : Int × Int) : validB s = true ↔ 1 ≤ s.1 ∧ s.1 ≤ 16 ∧ elemB s.2 = true := by
  simp [validB, and_assoc]

theorem nodup_of_cnt (l : List (Int × Int)) (hv : l.all validB = true) (h : ∀ j : Nat, j < 17 → cnt l l.length j ≤ 1) : (l.map (·.1)).Nodup := by
  rw [List.nodup_iff_count]
  intro a
  by_cases hm : a ∈ l.map (·.1)
  · obtain ⟨s, hs, rfl⟩ := List.mem_map.1 hm
    have := (validB_iff s).1 (List.all_eq_true.1 hv s hs)
    have h1 := h s.1.toNat (by omega)
    unfold cnt at h1
    rw [List.take_length, show ((s.1.toNat : Nat) : Int) = s.1 by omega] at h1
    omega
  · rw [List.count_eq_zero_of_not_mem hm]; omega

theorem dup_of_cnt (l : List (Int × Int)) (j : Nat) (h : 1 < cnt l l.length j) : ¬ (l.map (·.1)).Nodup := by
  intro hn
  have := List.nodup_iff_count.1 hn (j : Int)
  unfold cnt at h
  rw [List.take_length] at h
  omega

/-- What Join computes. -/
noncomputable def joinF (l : List (Int × Int)) (need : Int) : Int × Int := by
  classical exact
  if need < 1 ∨ 16 < need then (0, 1) else if l.all validB = false then (0, 1) else if ¬ (l.map (·.1)).Nodup then (0, 8)
  else if (l.length : Int) < need then (0, 25)
  else if (l.drop need.toNat).all (fun s => nv s.1 (l.take need.toNat) (need.toNat - 1) 0 == s.2) = false then (0, 24)
  else (nv 0 (l.take need.toNat) (need.toNat - 1) 0, 0)

theorem joinF_need (l : List (Int × Int)) (need : Int) (h : need < 1 ∨ 16 < need) : joinF l need = (0, 1) := by unfold joinF; rw [if_pos h]
theorem joinF_bad (l : List (Int × Int)) (need : Int) (h : 1 ≤ need) (h' : need ≤ 16) (hv : l.all validB = false) : joinF l need = (0, 1) := by
  unfold joinF; rw [if_neg (by omega), if_pos hv]
theorem joinF_dup (l : List (Int × Int)) (need : Int) (h : 1 ≤ need) (h' : need ≤ 16) (hv : l.all validB = true) (hd : ¬ (l.map (·.1)).Nodup) : joinF l need = (0, 8) := by
  unfold joinF; rw [if_neg (by omega), if_neg (by simp [hv]), if_pos hd]
theorem joinF_few (l : List (Int × Int)) (need : Int) (h : 1 ≤ need) (h' : need ≤ 16) (hv : l.all validB = true) (hd : (l.map (·.1)).Nodup) (hl : (l.length : Int) < need) : joinF l need = (0, 25) := by
  unfold joinF; rw [if_neg (by omega), if_neg (by simp [hv]), if_neg (by simpa using hd), if_pos hl]
theorem joinF_wrong (l : List (Int × Int)) (n : Nat) (h : 1 ≤ n) (h' : n ≤ 16) (hv : l.all validB = true) (hd : (l.map (·.1)).Nodup) (hl : n ≤ l.length)
    (k : Nat) (s : Int × Int) (hs : (l.drop n)[k]? = some s) (hw : ¬ nv s.1 (l.take n) (n - 1) 0 = s.2) : joinF l n = (0, 24) := by
  unfold joinF; rw [if_neg (by omega), if_neg (by simp [hv]), if_neg (by simpa using hd), if_neg (by omega), if_pos]
  rw [Int.toNat_natCast]
  exact all_false_of _ _ k s hs (by simpa using hw)
theorem joinF_ok (l : List (Int × Int)) (n : Nat) (h : 1 ≤ n) (h' : n ≤ 16) (hv : l.all validB = true) (hd : (l.map (·.1)).Nodup) (hl : n ≤ l.length)
    (hw : ∀ s, s ∈ l.drop n → nv s.1 (l.take n) (n - 1) 0 = s.2) : joinF l n = (nv 0 (l.take n) (n - 1) 0, 0) := by
  unfold joinF; rw [if_neg (by omega), if_neg (by simp [hv]), if_neg (by simpa using hd), if_neg (by omega), if_neg]
  · rw [Int.toNat_natCast]
  · rw [Int.toNat_natCast, Bool.not_eq_false, List.all_eq_true]
    intro s hs
    simpa using hw s hs

theorem Arr.zeros17 (w : World) (T : Nat) : Arr (w.alloc (.cells #[.int .i64 0, .int .i64 0, .int .i64 0, .int .i64 0, .int .i64 0, .int .i64 0, .int .i64 0, .int .i64 0, .int .i64 0, .int .i64 0, .int .i64 0, .int .i64 0, .int .i64 0, .int .i64 0, .int .i64 0, .int .i64 0, .int .i64 0] T)) w.heap.size T 17 (fun _ => 0) := by
  refine ⟨_, heap_alloc_new w _, rfl, fun j hj => ?_⟩
  match j, hj with
  | 0, _ | 1, _ | 2, _ | 3, _ | 4, _ | 5, _ | 6, _ | 7, _ | 8, _ | 9, _ | 10, _ | 11, _ | 12, _ | 13, _ | 14, _ | 15, _ | 16, _ => rfl
  | n + 17, h => omega

theorem info_point : (Tryz.prog.info? 164).map (fun i => (i.zero, i.size, i.bytes)) = some (some (.agg #[.int .i64 0, .int .i64 0]), 2, 16) := by kernel_rfl

set_option maxRecDepth 100000 in
set_option maxRecDepth 100000 in
set_option maxHeartbeats 8000000 in
theorem join_full (A : Option Addr) (c : Nat) (l : List (Int × Int)) (need : Int) (w : World) (hA : Prs w A l) (hlen : l.length ≤ 1000000) (hcap : l.length ≤ c) :
    Calls Tryz.prog 103 #[.slice A l.length c, .int .i64 need] w fun e w' =>
      e = .returned (.tuple #[.int .i64 (joinF l need).1, .int .i64 (joinF l need).2]) ∧ Below w.heap.size w w' := by
  by_cases hneed : need < 1 ∨ 16 < need
  · have hJ := Lib.hid (joinF_need l need hneed)
    rcases hneed with hneed | hneed
    · go_enter Tryz.func103, Tryz.ntmps103
      go_wp2
      go_ret2
      rw [hJ.out]
      exact ⟨rfl, Below.refl _ _⟩
    · go_enter Tryz.func103, Tryz.ntmps103
      go_wp2
      go_ret2
      rw [hJ.out]
      exact ⟨rfl, Below.refl _ _⟩
  have hn1 : 1 ≤ need := by omega
  have hn16 : need ≤ 16 := by omega
  clear hneed
  obtain ⟨n, rfl⟩ := Int.eq_ofNat_of_zero_le (show 0 ≤ need by omega)
  have HA := Lib.hid hA; clear hA
  go_enter Tryz.func103, Tryz.ntmps103
  go_wp2_with fail
  go_loopw [27] (fun u27 wr => ∃ (k : Nat) (f : Nat → Int), k ≤ l.length ∧ u27 = .int .i64 k ∧ Below w.heap.size w wr ∧ Arr wr w.heap.size 161 17 f ∧ (∀ j, j < 17 → f j = cnt l k j) ∧ (l.take k).all validB = true) (fun u27 _ => l.length - (intOf u27).toNat)
  case atStart => exact ⟨0, _, Nat.zero_le _, rfl, below_alloc (Below.refl _ _) _, Arr.zeros17 _ _, by simp [cnt_zero], rfl⟩
  case round =>
    obtain ⟨k, f, hk, rfl, hB, hAr, hf, hall⟩ := hrel
    have HB := Lib.hid hB; clear hB
    have HAR := Lib.hid hAr; clear hAr
    have HF := Lib.hid hf; clear hf
    have HALL := Lib.hid hall; clear hall
    have hlt0 := HAR.out.lt
    by_cases hlt : k < l.length
    · obtain ⟨s, hs⟩ := get_some l k hlt
      obtain ⟨b, off, rfl, hc1, hc2⟩ := (HA.out.below HB.out).at_ hs
      have HS := Lib.hid hs; clear hs
      cases hv : validB s
      · have hj := joinF_bad l n hn1 hn16 (all_false_of validB l k s HS.out hv)
        have HJ := Lib.hid hj; clear hj
        have HV := Lib.hid hv; clear hv
        go_wp2_with fail
        refine (valid_any s.1 s.2 _).mono ?_
        rintro e w' ⟨rfl, rfl⟩
        rw [HV.out]
        go_wp2
        go_ret2
        rw [HJ.out]
        exact ⟨rfl, below_alloc (below_alloc HB.out _) _⟩
      · obtain ⟨x1, x16, -⟩ := (validB_iff s).1 hv
        have HV := Lib.hid hv; clear hv
        have hcx := HAR.out.cell s.1.toNat (by omega)
        have hfx := HAR.out.frozen s.1.toNat
        have hb1 := cnt_le l k s.1.toNat
        rw [← HF.out s.1.toNat (by omega)] at hb1
        obtain ⟨b1, b2⟩ := hb1
        have hix : (0 : Int) ≤ s.1 := by omega
        have hix2 : s.1 < 17 := by omega
        go_wp2_with fail
        refine (valid_any s.1 s.2 _).mono ?_
        rintro e w' ⟨rfl, rfl⟩
        rw [HV.out]
        go_wp2
        go_roundw
        case rel =>
          refine ⟨k + 1, _, by omega, by go_num, (((HB.out).setCell (p := ⟨w.heap.size, s.1.toNat, none⟩) (Nat.le_refl _) _).alloc (by have := HB.out.size; simp; omega) _).alloc (by have := HB.out.size; simp; omega) _,
            ((HAR.out.set s.1.toNat (f s.1.toNat + 1)).alloc _).alloc _, fun j hj => ?_, by rw [all_take_succ validB l k s HS.out, HALL.out, HV.out]; rfl⟩
          rw [cnt_succ l k s HS.out j]
          by_cases hji : j = s.1.toNat
          · subst hji
            simp only [if_true]
            rw [if_pos (by omega), HF.out _ hj]
          · simp only [hji, if_false]
            rw [if_neg (by omega), HF.out _ hj]; omega
        case measure => simp [intOf]; omega
    · have hkl : l.length ≤ k := by omega
      have hall : l.all validB = true := by have := HALL.out; rwa [List.take_of_length_le hkl] at this
      have hfc : ∀ j, j < 17 → f j = cnt l l.length j := fun j hj => by rw [HF.out j hj]; unfold cnt; rw [List.take_of_length_le hkl, List.take_length]
      have HFC := Lib.hid hfc; clear hfc
      have HVA := Lib.hid hall; clear hall
      obtain ⟨cs, hcs, hcz, hcj⟩ := HAR.out
      have HCS := Lib.hid hcs; clear hcs
      have HCZ := Lib.hid hcz; clear hcz
      have HCJ := Lib.hid hcj; clear hcj
      go_wp2_with (refine wpList_load_row rfl 161 _ rfl w.heap.size rfl 161 cs _ _ HCS.out Tryz.underlying161 rfl (by rw [HCZ.out]; kernel_rfl) ?_)
      go_loop [10, 42] (fun _ u42 => ∃ i : Nat, i ≤ 17 ∧ u42 = .int .i64 i ∧ ∀ j, j < i → f j ≤ 1) (fun _ u42 => 17 - (intOf u42).toNat)
      case atStart => exact ⟨0, by omega, rfl, by simp⟩
      case round =>
        obtain ⟨i, hi, rfl, hle⟩ := hrel
        have HLE := Lib.hid hle; clear hle
        by_cases hlt2 : i < 17
        · obtain ⟨i0, hi0, hz0, hz1, hz2⟩ := info_parts info_int
          have hix := run_index_agg 161 3 17 .i64 i0 cs .i64 i _ Tryz.underlying161 Tryz.underlying3 hi0 hz1 hlt2 (HCJ.out i hlt2) wr
          clear hi0 hz0 hz1 hz2
          by_cases h1 : 1 < f i
          · have hj := joinF_dup l n hn1 hn16 HVA.out (dup_of_cnt l i (by rw [← HFC.out i hlt2]; exact h1))
            have HJ := Lib.hid hj; clear hj
            go_wp2
            go_ret2
            rw [HJ.out]
            exact ⟨rfl, HB.out⟩
          · have h1' : f i ≤ 1 := by omega
            go_wp2
            go_round
            case rel =>
              refine ⟨i + 1, by omega, by go_num, fun j hj => ?_⟩
              by_cases hji : j = i
              · subst hji; exact h1'
              · exact HLE.out j (by omega)
            case measure => simp [intOf]; omega
        · have hnd := nodup_of_cnt l HVA.out (fun j hj => by rw [← HFC.out j hj]; exact HLE.out j (by omega))
          have HND := Lib.hid hnd; clear hnd
          by_cases hfew : l.length < n
          · have hj := joinF_few l n hn1 hn16 HVA.out HND.out (by omega)
            have HJ := Lib.hid hj; clear hj
            go_wp2
            go_ret2
            rw [HJ.out]
            exact ⟨rfl, HB.out⟩
          · have hnl : n ≤ l.length := by omega
            obtain ⟨b, off, rfl, hcells⟩ := HA.out.2 (by omega)
            have HCE := Lib.hid hcells; clear hcells
            go_wp2_with fail
            obtain ⟨w3, rfl⟩ : ∃ w3 : World, w3 = wr := ⟨_, rfl⟩
            obtain ⟨i2, hi2, hy0, hy1, hy2⟩ := info_parts info_point
            have HI2 := Lib.hid (And.intro hi2 (And.intro hy0 (And.intro hy1 hy2)))
            clear hi2 hy0 hy1 hy2
            go_loopw [11, 56] (fun u11 u56 wr => ∃ q : Nat, q ≤ n ∧ u56 = .int .i64 q ∧ Below w3.heap.size w3 wr ∧ wr.ownsRow w3.heap.size 164 2 u11 q (flat2 (l.take q))) (fun _ u56 _ => n - (intOf u56).toNat)
            case atStart => exact ⟨0, Nat.zero_le _, rfl, Below.refl _ _, World.ownsRow_nil _ _ _ _⟩
            case round =>
              obtain ⟨q, hq, rfl, hB3, hO3⟩ := hrel
              have HB3 := Lib.hid hB3; clear hB3
              have HO3 := Lib.hid hO3; clear hO3
              by_cases hqn : q < n
              · obtain ⟨s, hs⟩ := get_some l q (by omega)
                obtain ⟨h1, h2⟩ := flat2_at l q s hs
                have hc1 := kept_cell HB3.out (kept_cell HB.out (HCE.out _ _ h1))
                have hc2 := kept_cell HB3.out (kept_cell HB.out (HCE.out _ _ h2))
                rw [← Nat.add_assoc] at hc2
                have HS := Lib.hid hs; clear hs h1 h2
                go_wp2_with (at_builtin; refine wpList_app _ rfl (.tmp 60) (.tmp 66) 163 163 rfl w3.heap.size 164 164 i2 _ 2 16 Tryz.underlying163 Tryz.underlying163 HI2.out.1 HI2.out.2.1 HI2.out.2.2.1 HI2.out.2.2.2 rfl (by omega) _ q _ rfl ((HO3.out.alloc _).alloc _) _ 1 1 [.int .i64 s.1, .int .i64 s.2] rfl (Rd_new (wr.alloc _) #[.int .i64 s.1, .int .i64 s.2] _ 2 1 _ rfl (by simp)) (by simp [Value.oneCell']) (by simp only [maxLen]; omega) (by omega) (by have := HB3.out.size; simp; omega) ?_)
                intro v1 w4 hown4 hg4
                have hB4 : Below w3.heap.size w3 w4 := (below_alloc (below_alloc HB3.out _) _).grown hg4 (by have := HB3.out.size; simp; omega) (fun j hj => (HO3.out.lt j hj).1)
                have e4 : flat2 (l.take q) ++ [.int .i64 s.1, .int .i64 s.2] = flat2 (l.take (q + 1)) := by rw [take_snoc l q s HS.out, flat2_append]; rfl
                rw [e4] at hown4
                have HOWN4 := Lib.hid hown4
                have HB4 := Lib.hid hB4
                clear hown4 hB4 hg4 e4
                go_wp2
                go_roundw
                case rel => exact ⟨q + 1, by omega, by go_num, HB4.out, HOWN4.out⟩
                case measure => simp [intOf]; omega
              · obtain rfl : q = n := by omega
                obtain ⟨A3, c3, rfl, hc3, hm3, hrd3⟩ := Rd.of_own HO3.out
                have eql : (l.take q).length = q := List.length_take_of_le hnl
                have hP3 : Prs wr A3 (l.take q) := by
                  unfold Prs; rw [eql]; exact hrd3
                have helem : ∀ p, p ∈ l → elemB p.1 = true ∧ elemB p.2 = true := fun p hp => by
                  have := (validB_iff p).1 (List.all_eq_true.1 HVA.out p hp)
                  exact ⟨by rw [elemB_iff]; omega, this.2.2⟩
                have hcall : ∀ (x : Int), elemB x = true → ∀ W, Below wr.heap.size wr W → Calls Tryz.prog 135 #[.slice A3 q c3, .int .i64 x] W fun e w' =>
                    e = .returned (.tuple #[.int .i64 (nv x (l.take q) (q - 1) 0), .int .i64 0]) ∧ Below W.heap.size W w' := by
                  intro x hx W hW
                  have h := pointsat_any A3 c3 (l.take q) x W (hP3.below hW) (by rw [eql]; omega) (by rw [eql]; omega) (by rw [eql]; exact hc3) hx (fun p hp => helem p (List.mem_of_mem_take hp))
                    ((HND.out).sublist ((List.take_sublist q l).map _))
                  rw [eql] at h
                  exact h
                have HCALL := Lib.hid hcall
                have HEL := Lib.hid helem
                have HB0 := Lib.hid (HB.out.trans (HB3.out.mono HB.out.size))
                clear hP3 hrd3 hcall helem eql
                obtain ⟨w5, rfl⟩ : ∃ w5 : World, w5 = wr := ⟨_, rfl⟩
                by_cases hcq : c = q
                · obtain rfl := hcq
                  have hj := joinF_ok l c (by omega) (by omega) HVA.out HND.out hnl (by intro s hs; rw [List.drop_eq_nil_of_le hcap] at hs; cases hs)
                  have HJ := Lib.hid hj; clear hj
                  go_wp2_with fail
                  refine wp_loop_rounds 1 ?_
                  rw [rounds_succ]
                  have hz : ¬ ((0 : Int) < (l.length : Int) - (c : Int)) := by omega
                  go_wp2_with fail
                  refine (HCALL.out 0 rfl _ (Below.refl _ _)).mono ?_
                  rintro e w6 ⟨rfl, hb6⟩
                  have HB6 := Lib.hid hb6; clear hb6
                  go_wp2
                  go_ret2
                  rw [HJ.out]
                  exact ⟨rfl, below_trans HB0.out HB6.out⟩
                · go_wp2_with fail
                  go_loopw [17, 18, 75] (fun _ _ u75 wr => ∃ r : Nat, r ≤ l.length - q ∧ u75 = .int .i64 r ∧ Below w5.heap.size w5 wr ∧ ∀ s, s ∈ (l.drop q).take r → nv s.1 (l.take q) (q - 1) 0 = s.2) (fun _ _ u75 _ => l.length - (intOf u75).toNat)
                  case atStart => exact ⟨0, Nat.zero_le _, rfl, Below.refl _ _, by simp⟩
                  case round =>
                    obtain ⟨r, hr, rfl, hB5, hok⟩ := hrel
                    have HB5 := Lib.hid hB5; clear hB5
                    have HOK := Lib.hid hok; clear hok
                    by_cases hrl : r < l.length - q
                    · obtain ⟨s, hs⟩ := get_some l (q + r) (by omega)
                      have hsd : (l.drop q)[r]? = some s := by rw [List.getElem?_drop]; exact hs
                      obtain ⟨h1, h2⟩ := flat2_at l (q + r) s hs
                      have hc1 := kept_cell HB5.out (kept_cell HB0.out (kept_cell (Below.refl _ _) (HCE.out _ _ h1)))
                      have hc2 := kept_cell HB5.out (kept_cell HB0.out (kept_cell (Below.refl _ _) (HCE.out _ _ h2)))
                      rw [show off + (q + r) * 2 = off + q * 2 + r * 2 by omega] at hc1
                      rw [show off + ((q + r) * 2 + 1) = off + q * 2 + r * 2 + 1 by omega] at hc2
                      have hex := (HEL.out s (List.mem_of_getElem? hs)).1
                      have hca := Lib.hid (HCALL.out s.1 hex _ (below_alloc HB5.out (.cells #[.int .i64 s.1, .int .i64 s.2] 48)))
                      have HSD := Lib.hid hsd
                      clear hs hsd h1 h2 hex
                      go_wp2_with fail
                      refine hca.out.mono ?_
                      rintro e w6 ⟨rfl, hb6⟩
                      have hsz : wr.heap.size < w6.heap.size := by have := hb6.size; simp at this; omega
                      have hcy : w6.cell? ⟨wr.heap.size, 1, none⟩ = some (.int .i64 s.2) := below_cell hb6 (by simp) (by rw [World.cell?_alloc_at _ _ _ _ rfl]; rfl)
                      have hb7 := below_trans (below_alloc HB5.out _) hb6
                      have HB7 := Lib.hid hb7
                      clear hb6 hb7
                      by_cases hy : nv s.1 (l.take q) (q - 1) 0 = s.2
                      · have HY := Lib.hid hy
                        have hy' : (nv s.1 (l.take q) (q - 1) 0 == s.2) = true := by simpa using hy
                        have hy'' : (nv s.1 (l.take q) (q - 1) 0 != s.2) = false := by simpa using hy
                        clear hy
                        go_wp2
                        go_roundw
                        case rel =>
                          refine ⟨r + 1, by omega, by go_num, HB7.out, fun t ht => ?_⟩
                          rw [take_snoc _ r s HSD.out] at ht
                          rcases List.mem_append.1 ht with ht | ht
                          · exact HOK.out t ht
                          · rw [List.mem_singleton.1 ht]; exact HY.out
                        case measure => simp [intOf]; omega
                      · have hj := joinF_wrong l q (by omega) (by omega) HVA.out HND.out hnl r s HSD.out hy
                        have HJ := Lib.hid hj; clear hj
                        have hy' : (nv s.1 (l.take q) (q - 1) 0 == s.2) = false := by simpa using hy
                        have hy'' : (nv s.1 (l.take q) (q - 1) 0 != s.2) = true := by simpa using hy
                        clear hy
                        go_wp2
                        go_ret2
                        rw [HJ.out]
                        exact ⟨rfl, below_trans HB0.out HB7.out⟩
                    · have hall : ∀ s, s ∈ l.drop q → nv s.1 (l.take q) (q - 1) 0 = s.2 := by
                        have := HOK.out
                        rwa [List.take_of_length_le (by rw [List.length_drop]; omega)] at this
                      have hj := joinF_ok l q (by omega) (by omega) HVA.out HND.out hnl hall
                      have HJ := Lib.hid hj; clear hj hall
                      go_wp2_with fail
                      refine (HCALL.out 0 rfl _ HB5.out).mono ?_
                      rintro e w6 ⟨rfl, hb6⟩
                      have HB6 := Lib.hid hb6; clear hb6
                      go_wp2
                      go_ret2
                      rw [HJ.out]
                      exact ⟨rfl, below_trans HB0.out (below_trans HB5.out HB6.out)⟩
end

section
section
abbrev F := Fin 2147483647

def phi (a : Int) : F := ⟨(a % 2147483647).toNat, by omega⟩

theorem phi_add (a b : Int) : phi (a + b) = phi a + phi b := by
  apply Fin.ext
  rw [Fin.val_add]
  simp only [phi]; omega
theorem phi_sub (a b : Int) : phi (a - b) = phi a - phi b := by
  have h : phi (a - b) + phi b = phi a := by rw [← phi_add]; congr 1; omega
  rw [← h]; grind
theorem phi_mul (a b : Int) : phi (a * b) = phi a * phi b := by
  apply Fin.ext
  rw [Fin.val_mul]
  simp only [phi]
  have h0 : 0 ≤ a % 2147483647 := by omega
  have h1 : 0 ≤ b % 2147483647 := by omega
  obtain ⟨m, hm⟩ := Int.eq_ofNat_of_zero_le h0
  obtain ⟨n, hn⟩ := Int.eq_ofNat_of_zero_le h1
  rw [Int.mul_emod, hm, hn]
  simp only [Int.toNat_natCast]
  omega
theorem phi_emod (a : Int) : phi (a % 2147483647) = phi a := by
  apply Fin.ext
  simp only [phi]; omega
theorem phi_p : phi 2147483647 = 0 := rfl
theorem phi_zero : phi 0 = 0 := rfl
theorem phi_one : phi 1 = 1 := rfl
theorem phi_inj {a b : Int} (ha : 0 ≤ a) (ha' : a < 2147483647) (hb : 0 ≤ b) (hb' : b < 2147483647) (h : phi a = phi b) : a = b := by
  have := congrArg Fin.val h
  simp only [phi] at this; omega
theorem phi_mns (a b : Int) : phi (mns a b) = phi a - phi b := by
  unfold mns
  rw [phi_emod, phi_add, phi_sub, phi_p]; grind

theorem phi_inv (a : Int) (h0 : 0 < a) (h1 : a < 2147483647) : phi (invp a) * phi a = 1 := by
  rw [← phi_mul, ← phi_emod, (invp_spec a h0 h1).2.2]; rfl

theorem phi_ne {a b : Int} (ha : 0 ≤ a) (ha' : a < 2147483647) (hb : 0 ≤ b) (hb' : b < 2147483647) (h : a ≠ b) : phi a ≠ phi b := fun e => h (phi_inj ha ha' hb hb' e)

theorem phi_surj (x : F) : ∃ a : Int, 0 ≤ a ∧ a < 2147483647 ∧ phi a = x :=
  ⟨(x.val : Int), by omega, by omega, by apply Fin.ext; simp only [phi]; omega⟩

/-- In the field: an element that isn't 0 has an inverse. -/
theorem f_inv (x : F) (h : x ≠ 0) : ∃ y : F, y * x = 1 := by
  obtain ⟨a, a0, a1, rfl⟩ := phi_surj x
  have : a ≠ 0 := fun e => h (by rw [e]; rfl)
  exact ⟨_, phi_inv a (by omega) a1⟩

theorem f_cancel (x y : F) (h : x ≠ 0) (e : x * y = 0) : y = 0 := by
  obtain ⟨z, hz⟩ := f_inv x h
  have : z * (x * y) = 0 := by rw [e]; grind
  have e2 : z * (x * y) = (z * x) * y := by grind
  rw [e2, hz] at this; grind

/-- The value of a polynomial, the constant first. -/
def ev : List F → F → F
  | [], _ => 0
  | c :: l, x => ev l x * x + c

theorem phi_evp (l : List Int) (x : Int) : phi (evp l x) = ev (l.map phi) (phi x) := by
  induction l with
  | nil => rfl
  | cons c l ih => rw [evp, phi_emod, phi_add, phi_mul, ih]; rfl

/-- Divided differences. -/
def dd : List F → List F → F
  | [], _ => 0
  | _ :: _, [] => 0
  | c :: l, [a] => c + a * dd l [a]
  | _ :: l, a :: b :: T => a * dd l (a :: b :: T) + dd l (b :: T)

theorem dd_nil (S : List F) : dd [] S = 0 := by cases S <;> rfl
theorem dd_none (cs : List F) : dd cs [] = 0 := by cases cs <;> rfl
theorem dd_one (cs : List F) (x : F) : dd cs [x] = ev cs x := by
  induction cs with
  | nil => rfl
  | cons c l ih => rw [dd, ih, ev]; grind

theorem dd_step (cs : List F) (a b : F) (T : List F) : (a - b) * dd cs (a :: b :: T) = dd cs (a :: T) - dd cs (b :: T) := by
  induction cs generalizing T with
  | nil => simp only [dd_nil]; grind
  | cons c l ih =>
    cases T with
    | nil => have := ih []; simp only [dd] at *; grind
    | cons t T => have := ih (t :: T); simp only [dd] at *; grind

theorem dd_swap (cs : List F) (a b : F) (T : List F) : dd cs (a :: b :: T) = dd cs (b :: a :: T) := by
  induction cs generalizing T with
  | nil => rfl
  | cons c l ih => have h1 := ih T; have h2 := dd_step l a b T; simp only [dd]; grind

theorem dd_perm {S S' : List F} (h : S.Perm S') : ∀ cs, dd cs S = dd cs S' := by
  induction h with
  | nil => intro cs; rfl
  | swap a b l => intro cs; exact dd_swap cs b a l
  | trans _ _ h1 h2 => intro cs; exact (h1 cs).trans (h2 cs)
  | @cons a S S' hp ih =>
    intro cs
    induction cs with
    | nil => simp only [dd_nil]
    | cons c l ihl =>
      cases S with
      | nil => rw [List.nil_perm.1 hp]
      | cons s S =>
        cases S' with
        | nil => exact absurd hp (by simp)
        | cons s' S' => simp only [dd]; rw [ihl, ih l]

theorem dd_long (cs S : List F) (h : cs.length < S.length) : dd cs S = 0 := by
  induction cs generalizing S with
  | nil => exact dd_nil S
  | cons c l ih =>
    match S, h with
    | [a], h => simp at h
    | a :: b :: T, h => simp only [dd]; rw [ih (a :: b :: T) (by simp at h ⊢; omega), ih (b :: T) (by simp at h ⊢; omega)]; grind

def prd (x : F) : List F → F
  | [] => 1
  | a :: l => (x - a) * prd x l

theorem prd_append (x : F) (l m : List F) : prd x (l ++ m) = prd x l * prd x m := by
  induction l with
  | nil => simp only [List.nil_append, prd]; grind
  | cons a l ih => simp only [List.cons_append, prd, ih]; grind
end

section
def nodes (ps : List (Int × Int)) (j k : Nat) : List F := ((ps.drop j).take k).map fun p => phi p.1

theorem nodes_cons (ps : List (Int × Int)) (j k : Nat) (p : Int × Int) (h : ps[j]? = some p) : nodes ps j (k + 1) = phi p.1 :: nodes ps (j + 1) k := by
  obtain ⟨hj, rfl⟩ := List.getElem?_eq_some_iff.1 h
  unfold nodes
  rw [List.drop_eq_getElem_cons hj]; rfl

theorem nodes_snoc (ps : List (Int × Int)) (j k : Nat) (p : Int × Int) (h : ps[j + k]? = some p) : nodes ps j (k + 1) = nodes ps j k ++ [phi p.1] := by
  unfold nodes
  rw [take_snoc (ps.drop j) k p (by rw [List.getElem?_drop]; exact h)]; simp

/-- The list of a slice of points: elements of the field, different places. -/
structure Good (ps : List (Int × Int)) : Prop where
  elems : ∀ p, p ∈ ps → elemB p.1 = true ∧ elemB p.2 = true
  nodup : (ps.map (·.1)).Nodup

theorem nev_alg (f x a b u vi vj m d1 d2 d3 : F) (hu : u * (a - b) = 1) (i1 : f - vi = (x - a) * m * d1) (i2 : f - vj = m * ((x - b) * 1) * d2) (h4 : (a - b) * d3 = d1 - d2) :
    f - ((x - b) * vi - (x - a) * vj) * u = (x - a) * (m * ((x - b) * 1)) * d3 := by
  have e1 : f - ((x - b) * vi - (x - a) * vj) * u = ((x - b) * (f - vi) - (x - a) * (f - vj)) * u + f * (1 - u * (a - b)) := by grind
  rw [e1, i1, i2, hu]
  have e2 : ((x - b) * ((x - a) * m * d1) - (x - a) * (m * ((x - b) * 1) * d2)) * u + f * (1 - 1) = (x - a) * m * (x - b) * u * (d1 - d2) := by grind
  rw [e2, ← h4]
  have e3 : (x - a) * m * (x - b) * u * ((a - b) * d3) = (x - a) * m * (x - b) * (u * (a - b)) * d3 := by grind
  rw [e3, hu]; grind

theorem neville (ps : List (Int × Int)) (hg : Good ps) (C : List F) (hC : ∀ p, p ∈ ps → phi p.2 = ev C (phi p.1)) (x : Int) :
    ∀ k j, j + k < ps.length → ev C (phi x) - phi (nv x ps k j) = prd (phi x) (nodes ps j (k + 1)) * dd C (nodes ps j (k + 1) ++ [phi x]) := by
  intro k
  induction k with
  | zero =>
    intro j hj
    obtain ⟨p, hp⟩ := get_some ps j (by omega)
    have h1 := hC p (List.mem_of_getElem? hp)
    have h2 := dd_step C (phi x) (phi p.1) []
    rw [nodes_cons ps j 0 p hp]
    simp only [nv, hp, Option.getD_some, nodes, List.take_zero, List.map_nil, List.cons_append, List.nil_append, prd]
    rw [dd_one, dd_one] at h2
    rw [h1, dd_swap]
    grind
  | succ k ih =>
    intro j hj
    obtain ⟨p, hp⟩ := get_some ps j (by omega)
    obtain ⟨q, hq⟩ := get_some ps (j + (k + 1)) (by omega)
    have i1 := ih j (by omega)
    have i2 := ih (j + 1) (by omega)
    have hne : p.1 ≠ q.1 := nodup_ne hg.nodup j (j + (k + 1)) _ _ (by simp [hp]) (by simp [hq]) (by omega)
    have hpe := (elemB_iff _).1 (hg.elems p (List.mem_of_getElem? hp)).1
    have hqe := (elemB_iff _).1 (hg.elems q (List.mem_of_getElem? hq)).1
    have hm := mns_range p.1 q.1
    have hmp := mns_pos p.1 q.1 hpe.1 hpe.2 hqe.1 hqe.2 hne
    have hu := phi_inv (mns p.1 q.1) hmp hm.2
    rw [phi_mns] at hu
    have hn : phi (nv x ps (k + 1) j) = ((phi x - phi q.1) * phi (nv x ps k j) - (phi x - phi p.1) * phi (nv x ps k (j + 1))) * phi (invp (mns p.1 q.1)) := by
      simp only [nv, hp, hq, Option.getD_some, nst]
      rw [phi_emod, phi_mul, phi_mns, phi_emod, phi_emod, phi_mul, phi_mul, phi_mns, phi_mns]
    rw [nodes_cons ps j k p hp] at i1
    rw [nodes_snoc ps (j + 1) k q (by rw [show j + 1 + k = j + (k + 1) by omega]; exact hq)] at i2
    have e3 : nodes ps j (k + 1 + 1) = phi p.1 :: (nodes ps (j + 1) k ++ [phi q.1]) := by
      rw [nodes_cons ps j (k + 1) p hp, nodes_snoc ps (j + 1) k q (by rw [show j + 1 + k = j + (k + 1) by omega]; exact hq)]
    rw [e3, hn]
    generalize nodes ps (j + 1) k = M at *
    have p1 : dd C (phi p.1 :: (M ++ [phi q.1]) ++ [phi x]) = dd C (phi p.1 :: phi q.1 :: (M ++ [phi x])) := by
      apply dd_perm
      rw [List.cons_append, List.append_assoc]
      exact List.Perm.cons _ (by simp)
    have p2 : dd C (M ++ [phi q.1] ++ [phi x]) = dd C (phi q.1 :: (M ++ [phi x])) := by
      apply dd_perm
      rw [List.append_assoc]
      simp
    have h4 := dd_step C (phi p.1) (phi q.1) (M ++ [phi x])
    rw [p1]
    rw [p2, prd_append] at i2
    simp only [prd, List.cons_append] at i1 i2 ⊢
    rw [prd_append]
    simp only [prd]
    exact nev_alg _ _ _ _ _ _ _ _ _ _ _ hu i1 i2 h4

/-- Interpolation through at least as many points of a polynomial as it has coefficients gives its values. -/
theorem nv_ev (ps : List (Int × Int)) (hg : Good ps) (C : List F) (hC : ∀ p, p ∈ ps → phi p.2 = ev C (phi p.1)) (x : Int) (hl : C.length ≤ ps.length) (h0 : 0 < ps.length) :
    phi (nv x ps (ps.length - 1) 0) = ev C (phi x) := by
  have h := neville ps hg C hC x (ps.length - 1) 0 (by omega)
  have hn : (nodes ps 0 (ps.length - 1 + 1)).length = ps.length := by
    unfold nodes
    rw [List.drop_zero, List.length_map, List.length_take]; omega
  rw [dd_long C _ (by rw [List.length_append, hn]; simp; omega)] at h
  grind

theorem nv_evp (ps : List (Int × Int)) (hg : Good ps) (c : List Int) (hC : ∀ p, p ∈ ps → p.2 = evp c p.1) (x : Int) (hl : c.length ≤ ps.length) (h0 : 0 < ps.length) :
    nv x ps (ps.length - 1) 0 = evp c x := by
  have h := nv_ev ps hg (c.map phi) (fun p hp => by rw [← phi_evp, ← hC p hp]) x (by simpa using hl) h0
  rw [← phi_evp] at h
  have r1 := nv_range x ps hg.elems (ps.length - 1) 0
  have r2 := evp_range c x
  exact phi_inj r1.1 r1.2 r2.1 r2.2 h

/-! ### interpolation exists -/
def addP : List F → List F → List F
  | [], m => m
  | a :: l, [] => a :: l
  | a :: l, b :: m => (a + b) :: addP l m
theorem ev_addP (l m : List F) (x : F) : ev (addP l m) x = ev l x + ev m x := by
  induction l generalizing m with
  | nil => simp only [addP, ev]; grind
  | cons a l ih =>
    cases m with
    | nil => simp only [addP, ev]; grind
    | cons b m => simp only [addP, ev, ih]; grind
theorem length_addP (l m : List F) (n : Nat) (h1 : l.length ≤ n) (h2 : m.length ≤ n) : (addP l m).length ≤ n := by
  induction l generalizing m n with
  | nil => exact h2
  | cons a l ih =>
    cases m with
    | nil => exact h1
    | cons b m =>
      cases n with
      | zero => simp at h1
      | succ n => simp only [addP, List.length_cons] at *; have := ih m n (by omega) (by omega); omega
theorem ev_smul (c : F) (l : List F) (x : F) : ev (l.map (c * ·)) x = c * ev l x := by
  induction l with
  | nil => simp only [List.map_nil, ev]; grind
  | cons a l ih => simp only [List.map_cons, ev, ih]; grind

/-- The polynomial that is zero at the nodes. -/
def zeroP : List F → List F
  | [] => [1]
  | a :: S => addP (0 :: zeroP S) ((zeroP S).map ((-a) * ·))
theorem ev_zeroP (S : List F) (x : F) : ev (zeroP S) x = prd x S := by
  induction S with
  | nil => simp only [zeroP, ev, prd]; grind
  | cons a S ih => simp only [zeroP, ev_addP, ev_smul, ev, ih, prd]; grind
theorem length_zeroP (S : List F) : (zeroP S).length ≤ S.length + 1 := by
  induction S with
  | nil => simp [zeroP]
  | cons a S ih =>
    simp only [zeroP, List.length_cons]
    exact length_addP _ _ _ (by simp; omega) (by simp; omega)
theorem prd_ne (x : F) (S : List F) (h : ∀ a, a ∈ S → x ≠ a) : prd x S ≠ 0 := by
  induction S with
  | nil => simp only [prd]; decide
  | cons a S ih =>
    intro e
    simp only [prd] at e
    have h1 : x - a ≠ 0 := fun h0 => h a (by simp) (by grind)
    exact ih (fun b hb => h b (by simp [hb])) (f_cancel _ _ h1 e)
theorem prd_zero (x : F) (S : List F) (h : x ∈ S) : prd x S = 0 := by
  induction S with
  | nil => cases h
  | cons a S ih =>
    simp only [prd]
    rcases List.mem_cons.1 h with rfl | h
    · grind
    · rw [ih h]; grind

theorem interp_exists (ps : List (F × F)) (hnd : (ps.map (·.1)).Nodup) : ∃ C : List F, C.length ≤ ps.length ∧ ∀ p, p ∈ ps → ev C p.1 = p.2 := by
  induction ps with
  | nil => exact ⟨[], by simp, by simp⟩
  | cons p ps ih =>
    rw [List.map_cons, List.nodup_cons] at hnd
    obtain ⟨C, hl, hC⟩ := ih hnd.2
    have hne : prd p.1 (ps.map (·.1)) ≠ 0 := prd_ne _ _ fun a ha e => hnd.1 (e ▸ ha)
    obtain ⟨u, hu⟩ := f_inv _ hne
    refine ⟨addP C ((zeroP (ps.map (·.1))).map (((p.2 - ev C p.1) * u) * ·)), length_addP _ _ _ (by simp; omega) (by have := length_zeroP (ps.map (·.1)); simp at this ⊢; omega), ?_⟩
    intro q hq
    rw [ev_addP, ev_smul, ev_zeroP]
    rcases List.mem_cons.1 hq with rfl | hq
    · grind
    · rw [hC q hq, prd_zero _ _ (List.mem_map_of_mem hq)]; grind
end

section
/-- A list of shares of the polynomial p at different places. -/
structure On (p : List Int) (l : List (Int × Int)) : Prop where
  place : ∀ s, s ∈ l → 1 ≤ s.1 ∧ s.1 ≤ 16
  value : ∀ s, s ∈ l → s.2 = evp p s.1
  nodup : (l.map (·.1)).Nodup

theorem On.valid {p : List Int} {l : List (Int × Int)} (h : On p l) : l.all validB = true := by
  rw [List.all_eq_true]
  intro s hs
  rw [validB_iff, elemB_iff, h.value s hs]
  have := h.place s hs
  have := evp_range p s.1
  omega

theorem good_of (l : List (Int × Int)) (hv : l.all validB = true) (hn : (l.map (·.1)).Nodup) : Good l :=
  ⟨fun s hs => by
    have := (validB_iff s).1 (List.all_eq_true.1 hv s hs)
    exact ⟨by rw [elemB_iff]; omega, this.2.2⟩, hn⟩

theorem Good.take {l : List (Int × Int)} (h : Good l) (n : Nat) : Good (l.take n) :=
  ⟨fun s hs => h.elems s (List.mem_of_mem_take hs), h.nodup.sublist ((List.take_sublist n l).map _)⟩

theorem On.good {p : List Int} {l : List (Int × Int)} (h : On p l) : Good l := good_of l h.valid h.nodup

theorem On.sublist {p : List Int} {l m : List (Int × Int)} (h : On p l) (hs : m.Sublist l) : On p m :=
  ⟨fun s hm => h.place s (hs.mem hm), fun s hm => h.value s (hs.mem hm), h.nodup.sublist (hs.map _)⟩

theorem On.nv_take {p : List Int} {l : List (Int × Int)} (h : On p l) (hp : p.length ≤ l.length) (h0 : 0 < l.length) (x : Int) : nv x l (l.length - 1) 0 = evp p x :=
  nv_evp l h.good p h.value x hp h0

/-- Enough shares are joined to the constant. -/
theorem joinF_on (p : List Int) (n : Nat) (l : List (Int × Int)) (h : On p l) (hn : 1 ≤ n) (hn' : n ≤ 16) (hp : p.length ≤ n) (hl : n ≤ l.length) : joinF l n = (evp p 0, 0) := by
  have ht : (l.take n).length = n := List.length_take_of_le hl
  have hv : ∀ x, nv x (l.take n) (n - 1) 0 = evp p x := by
    intro x
    have := (h.sublist (List.take_sublist n l)).nv_take (by omega) (by omega) x
    rwa [ht] at this
  rw [joinF_ok l n hn hn' h.valid h.nodup hl (fun s hs => by rw [hv, h.value s (List.mem_of_mem_drop hs)]), hv]

theorem joinF_on_few (p : List Int) (n : Nat) (l : List (Int × Int)) (h : On p l) (hn : 1 ≤ n) (hn' : n ≤ 16) (hl : l.length < n) : joinF l n = (0, 25) :=
  joinF_few l n (by omega) (by omega) h.valid h.nodup (by omega)

/-- More than enough shares, one of them with another value: ErrProof. -/
theorem joinF_on_wrong (p : List Int) (n : Nat) (l : List (Int × Int)) (h : On p l) (hn : 1 ≤ n) (hn' : n ≤ 16) (hp : p.length ≤ n) (hl : n < l.length)
    (k : Nat) (s : Int × Int) (hs : l[k]? = some s) (y : Int) (y0 : 0 ≤ y) (y1 : y < 2147483647) (hy : y ≠ s.2) : joinF (l.set k (s.1, y)) n = (0, 24) := by
  have hk : k < l.length := (List.getElem?_eq_some_iff.1 hs).1
  have hsm := List.mem_of_getElem? hs
  have hmap : (l.set k (s.1, y)).map (·.1) = l.map (·.1) := by
    apply List.ext_getElem?
    intro i
    by_cases hi : i = k
    · subst hi
      rw [List.getElem?_map, List.getElem?_map, hs, List.getElem?_set_self hk]; rfl
    · rw [List.getElem?_map, List.getElem?_map, List.getElem?_set_ne (fun e => hi e.symm)]
  have hv : (l.set k (s.1, y)).all validB = true := by
    rw [List.all_eq_true]
    intro t ht
    rcases List.mem_or_eq_of_mem_set ht with ht | rfl
    · exact List.all_eq_true.1 h.valid t ht
    · have hp := h.place s hsm
      rw [validB_iff, elemB_iff]; simp only; omega
  have hnd : ((l.set k (s.1, y)).map (·.1)).Nodup := by rw [hmap]; exact h.nodup
  have hg := good_of _ hv hnd
  have hlen : (l.set k (s.1, y)).length = l.length := by simp
  have hgk : (l.set k (s.1, y))[k]? = some (s.1, y) := by simp [hk]
  by_cases hall : ∀ t, t ∈ (l.set k (s.1, y)).drop n → nv t.1 ((l.set k (s.1, y)).take n) (n - 1) 0 = t.2
  · exfalso
    generalize hl' : l.set k (s.1, y) = l' at *
    have ht : (l'.take n).length = n := List.length_take_of_le (by omega)
    have hphi : (((l'.take n).map fun p => (phi p.1, phi p.2)).map (·.1)).Nodup := by
      have e : ((l'.take n).map fun p => (phi p.1, phi p.2)).map (·.1) = ((l'.take n).map (·.1)).map phi := by rw [List.map_map, List.map_map]; rfl
      rw [e]
      refine List.pairwise_map.2 (List.Pairwise.imp_of_mem ?_ (hg.take n).nodup)
      intro a b ha hb hab
      obtain ⟨pa, hpa, rfl⟩ := List.mem_map.1 ha
      obtain ⟨pb, hpb, rfl⟩ := List.mem_map.1 hb
      have r1 := (elemB_iff _).1 ((hg.take n).elems pa hpa).1
      have r2 := (elemB_iff _).1 ((hg.take n).elems pb hpb).1
      exact phi_ne r1.1 r1.2 r2.1 r2.2 hab
    obtain ⟨C, hCl, hC⟩ := interp_exists _ hphi
    have hCt : ∀ t, t ∈ l'.take n → phi t.2 = ev C (phi t.1) := fun t ht => (hC _ (List.mem_map_of_mem (f := fun p : Int × Int => (phi p.1, phi p.2)) ht)).symm
    have hnv : ∀ x, phi (nv x (l'.take n) (n - 1) 0) = ev C (phi x) := by
      intro x
      have := nv_ev (l'.take n) (hg.take n) C hCt x (by simpa using hCl) (by omega)
      rwa [ht] at this
    have hCall : ∀ t, t ∈ l' → phi t.2 = ev C (phi t.1) := by
      intro t ht'
      rw [← List.take_append_drop n l'] at ht'
      rcases List.mem_append.1 ht' with h1 | h1
      · exact hCt t h1
      · rw [← hnv, hall t h1]
    -- the others, which lie on p too
    have hsub : ((l'.eraseIdx k).take n).Sublist l' := (List.take_sublist _ _).trans (List.eraseIdx_sublist _ _)
    have hql : ((l'.eraseIdx k).take n).length = n := by
      rw [List.length_take_of_le]; rw [List.length_eraseIdx_of_lt (by omega)]; omega
    have hqon : ∀ t, t ∈ (l'.eraseIdx k).take n → t.2 = evp p t.1 := by
      intro t ht'
      have hm := List.mem_of_mem_take ht'
      obtain ⟨i, hi⟩ := List.getElem?_of_mem hm
      rw [List.getElem?_eraseIdx] at hi
      rw [← hl'] at hi
      split at hi
      · rw [List.getElem?_set_ne (by omega)] at hi
        exact h.value t (List.mem_of_getElem? hi)
      · rw [List.getElem?_set_ne (by omega)] at hi
        exact h.value t (List.mem_of_getElem? hi)
    have hqg : Good ((l'.eraseIdx k).take n) := ⟨fun t ht => hg.elems t (hsub.mem ht), hg.nodup.sublist (hsub.map _)⟩
    have h1 := nv_evp _ hqg p hqon s.1 (by omega) (by omega)
    have h2 := nv_ev _ hqg C (fun t ht => hCall t (hsub.mem ht)) s.1 (by rw [hql]; rw [List.length_map, ht] at hCl; exact hCl) (by omega)
    rw [h1] at h2
    have h3 := hCall (s.1, y) (List.mem_of_getElem? hgk)
    simp only at h3
    rw [← h2, ← h.value s hsm] at h3
    have hr := evp_range p s.1
    rw [← h.value s hsm] at hr
    exact hy (phi_inj y0 y1 hr.1 hr.2 h3)
  · obtain ⟨t, ht⟩ := Classical.not_forall.1 hall
    have ht1 : t ∈ (l.set k (s.1, y)).drop n := Classical.byContradiction fun e => ht fun h' => absurd h' e
    have ht2 : ¬ nv t.1 ((l.set k (s.1, y)).take n) (n - 1) 0 = t.2 := fun e => ht fun _ => e
    obtain ⟨i, hi⟩ := List.getElem?_of_mem ht1
    exact joinF_wrong _ n hn hn' hv hnd (by omega) i t hi ht2
end
end

section
open Go.RowKit

theorem evp_zero (a : Int) (l : List Int) (h : elemB a = true) : evp (a :: l) 0 = a := by
  have := (elemB_iff a).1 h
  simp only [evp]; omega

theorem elemB_mod (a : Int) : elemB (a % 2147483647) = true := by rw [elemB_iff]; omega

/-- The shares of a polynomial lie on it. -/
theorem shs_on (p : List Int) (m : Nat) (hm : m ≤ 16) : On p (shs p m) := by
  refine ⟨fun s hs => ?_, fun s hs => ?_, ?_⟩
  · obtain ⟨i, hi, rfl⟩ := List.mem_map.1 hs
    have := List.mem_range.1 hi
    simp only; omega
  · obtain ⟨i, hi, rfl⟩ := List.mem_map.1 hs
    rfl
  · have e : (shs p m).map (·.1) = (List.range m).map fun (i : Nat) => (i : Int) + 1 := by simp [shs]
    rw [e]
    refine List.pairwise_map.2 (List.Pairwise.imp ?_ List.nodup_range)
    intro a b hab h
    exact hab (by omega)

theorem On.reverse {p : List Int} {l : List (Int × Int)} (h : On p l) : On p l.reverse :=
  ⟨fun s hs => h.place s (by simpa using hs), fun s hs => h.value s (by simpa using hs), by rw [List.map_reverse]; exact (List.reverse_perm _).nodup_iff.2 h.nodup⟩
end

section
open Go.RowKit

theorem good_phi {l : List (Int × Int)} (hg : Good l) : ((l.map fun p => (phi p.1, phi p.2)).map (·.1)).Nodup := by
  have e : (l.map fun p => (phi p.1, phi p.2)).map (·.1) = (l.map (·.1)).map phi := by rw [List.map_map, List.map_map]; rfl
  rw [e]
  refine List.pairwise_map.2 (List.Pairwise.imp_of_mem ?_ hg.nodup)
  intro a b ha hb hab
  obtain ⟨pa, hpa, rfl⟩ := List.mem_map.1 ha
  obtain ⟨pb, hpb, rfl⟩ := List.mem_map.1 hb
  have r1 := (elemB_iff _).1 (hg.elems pa hpa).1
  have r2 := (elemB_iff _).1 (hg.elems pb hpb).1
  exact phi_ne r1.1 r1.2 r2.1 r2.2 hab

/-- The shares lie on a polynomial of the field. -/
def OnC (C : List F) (l : List (Int × Int)) : Prop := ∀ s, s ∈ l → phi s.2 = ev C (phi s.1)

theorem onC_nv {l : List (Int × Int)} {n : Nat} (hg : Good l) (hn : 1 ≤ n) (hl : n ≤ l.length) {C : List F} (hC : C.length ≤ n) (h : OnC C (l.take n)) (x : Int) :
    phi (nv x (l.take n) (n - 1) 0) = ev C (phi x) := by
  have ht : (l.take n).length = n := List.length_take_of_le hl
  have := nv_ev (l.take n) (hg.take n) C h x (by omega) (by omega)
  rwa [ht] at this

theorem joinF_onC {l : List (Int × Int)} {n : Nat} (hv : l.all validB = true) (hnd : (l.map (·.1)).Nodup) (hn : 1 ≤ n) (hn' : n ≤ 16) (hl : n ≤ l.length) {C : List F} (hC : C.length ≤ n) (h : OnC C l) :
    joinF l n = (nv 0 (l.take n) (n - 1) 0, 0) := by
  have hg := good_of l hv hnd
  refine joinF_ok l n hn hn' hv hnd hl (fun s hs => ?_)
  have h1 := onC_nv hg hn hl hC (fun s hs => h s (List.mem_of_mem_take hs)) s.1
  have hsl := List.mem_of_mem_drop hs
  rw [← h s hsl] at h1
  have r1 := nv_range s.1 (l.take n) (hg.take n).elems (n - 1) 0
  have r2 := (elemB_iff _).1 (hg.elems s hsl).2
  exact phi_inj r1.1 r1.2 r2.1 r2.2 h1

theorem onC_of {l : List (Int × Int)} {n : Nat} (hg : Good l) (hn : 1 ≤ n) (hl : n ≤ l.length) (hw : ∀ s, s ∈ l.drop n → nv s.1 (l.take n) (n - 1) 0 = s.2) : ∃ C : List F, C.length ≤ n ∧ OnC C l := by
  obtain ⟨C, hCl, hC⟩ := interp_exists _ (good_phi (hg.take n))
  have hct : OnC C (l.take n) := fun t ht => (hC _ (List.mem_map_of_mem (f := fun p : Int × Int => (phi p.1, phi p.2)) ht)).symm
  have hcn : C.length ≤ n := by rw [List.length_map, List.length_take] at hCl; omega
  refine ⟨C, hcn, fun s hs => ?_⟩
  rw [← List.take_append_drop n l] at hs
  rcases List.mem_append.1 hs with h1 | h1
  · exact hct s h1
  · rw [← onC_nv hg hn hl hcn hct, hw s h1]

theorem joinF_perm {l m : List (Int × Int)} (h : l.Perm m) (need : Int) : joinF l need = joinF m need := by
  by_cases hneed : need < 1 ∨ 16 < need
  · rw [joinF_need l need hneed, joinF_need m need hneed]
  have hn1 : 1 ≤ need := by omega
  have hn16 : need ≤ 16 := by omega
  have hall : l.all validB = m.all validB := by
    rw [Bool.eq_iff_iff, List.all_eq_true, List.all_eq_true]
    exact ⟨fun k s hs => k s (h.mem_iff.2 hs), fun k s hs => k s (h.mem_iff.1 hs)⟩
  cases hv : l.all validB
  · rw [joinF_bad l need hn1 hn16 hv, joinF_bad m need hn1 hn16 (by rw [← hall]; exact hv)]
  have hv' : m.all validB = true := by rw [← hall]; exact hv
  have hnd : (l.map (·.1)).Nodup ↔ (m.map (·.1)).Nodup := (h.map _).nodup_iff
  by_cases hd : (l.map (·.1)).Nodup
  case neg => rw [joinF_dup l need hn1 hn16 hv hd, joinF_dup m need hn1 hn16 hv' (fun k => hd (hnd.2 k))]
  have hd' := hnd.1 hd
  have hlen := h.length_eq
  by_cases hfew : (l.length : Int) < need
  · rw [joinF_few l need hn1 hn16 hv hd hfew, joinF_few m need hn1 hn16 hv' hd' (by omega)]
  obtain ⟨n, rfl⟩ := Int.eq_ofNat_of_zero_le (show 0 ≤ need by omega)
  have hgl := good_of l hv hd
  have hgm := good_of m hv' hd'
  -- on one polynomial, in whatever order
  have key : ∀ (a b : List (Int × Int)), a.Perm b → a.all validB = true → b.all validB = true → (a.map (·.1)).Nodup → (b.map (·.1)).Nodup → n ≤ a.length → n ≤ b.length →
      (∀ s, s ∈ a.drop n → nv s.1 (a.take n) (n - 1) 0 = s.2) → joinF a n = joinF b n := by
    intro a b hab va vb da db la lb hw
    obtain ⟨C, hC, hon⟩ := onC_of (good_of a va da) (by omega) la hw
    have honb : OnC C b := fun s hs => hon s (hab.mem_iff.2 hs)
    rw [joinF_onC va da (by omega) (by omega) la hC hon, joinF_onC vb db (by omega) (by omega) lb hC honb]
    have h1 := onC_nv (good_of a va da) (by omega) la hC (fun s hs => hon s (List.mem_of_mem_take hs)) 0
    have h2 := onC_nv (good_of b vb db) (by omega) lb hC (fun s hs => honb s (List.mem_of_mem_take hs)) 0
    have r1 := nv_range 0 (a.take n) ((good_of a va da).take n).elems (n - 1) 0
    have r2 := nv_range 0 (b.take n) ((good_of b vb db).take n).elems (n - 1) 0
    rw [phi_inj r1.1 r1.2 r2.1 r2.2 (h1.trans h2.symm)]
  by_cases hw : ∀ s, s ∈ l.drop n → nv s.1 (l.take n) (n - 1) 0 = s.2
  · exact key l m h hv hv' hd hd' (by omega) (by omega) hw
  by_cases hw' : ∀ s, s ∈ m.drop n → nv s.1 (m.take n) (n - 1) 0 = s.2
  · exact (key m l h.symm hv' hv hd' hd (by omega) (by omega) hw').symm
  have bad : ∀ (a : List (Int × Int)), a.all validB = true → (a.map (·.1)).Nodup → n ≤ a.length → ¬ (∀ s, s ∈ a.drop n → nv s.1 (a.take n) (n - 1) 0 = s.2) → joinF a n = (0, 24) := by
    intro a va da la hno
    obtain ⟨t, ht⟩ := Classical.not_forall.1 hno
    have ht1 : t ∈ a.drop n := Classical.byContradiction fun e => ht fun h' => absurd h' e
    have ht2 : ¬ nv t.1 (a.take n) (n - 1) 0 = t.2 := fun e => ht fun _ => e
    obtain ⟨i, hi⟩ := List.getElem?_of_mem ht1
    exact joinF_wrong a n (by omega) (by omega) va da la i t hi ht2
  rw [bad l hv hd (by omega) hw, bad m hv' hd' (by omega) hw']
end

section
open Go.RowKit

def bSalt : ByteArray := ⟨#[115, 97, 108, 116]⟩
def bSeed : ByteArray := ⟨#[115, 101, 101, 100]⟩
def ktT (salt : ByteArray) (i : Nat) : ByteArray := jb [bSalt, salt, dec i]
def kslt (salt : ByteArray) (i : Nat) : ByteArray := dg (ktT salt i)
def ksT (i v : Nat) (s : ByteArray) : ByteArray := jb [bSeed, dec i, dec v, s]
def ksLf (i v : Nat) (s : ByteArray) : ByteArray := lf (dg (ksT i v s))
def ksL (l : List Int) (salt : ByteArray) : List ByteArray := l.mapIdx fun i v => ksLf i v.toNat (kslt salt i)
def khT (i : Nat) (s : Int × Int) : ByteArray := dec i ++ bSp ++ dec s.1.toNat ++ bSp ++ dec s.2.toNat
def khLf (i : Nat) (s : Int × Int) : ByteArray := lf (khT i s)
def kpoly (l : List Int) (need : Nat) (random : List Int) (i : Nat) : List Int := (l[i]?.getD 0) :: (random.drop (i * (need - 1))).take (need - 1)
def kof (l : List Int) (need total : Nat) (random : List Int) (i : Nat) : List (Int × Int) := shs (kpoly l need random i) total
def khP (l : List Int) (need total : Nat) (random : List Int) (j : Nat) : List ByteArray := (List.range j).flatMap fun i => (kof l need total random i).map (khLf i)

/-! ### leaves -/
theorem ksLf_D (i v : Nat) (s : ByteArray) : isD (ksLf i v s) = true := isD_dg _
theorem khLf_D (i : Nat) (s : Int × Int) : isD (khLf i s) = true := isD_dg _
theorem ksL_length (l : List Int) (salt : ByteArray) : (ksL l salt).length = l.length := by simp [ksL]
theorem ksL_get {l : List Int} {salt : ByteArray} {i : Nat} {v : Int} (h : l[i]? = some v) : (ksL l salt)[i]? = some (ksLf i v.toNat (kslt salt i)) := by simp [ksL, h]
theorem ksL_D (l : List Int) (salt : ByteArray) : allD (ksL l salt) = true := by
  simp only [allD, List.all_eq_true]
  intro x hx
  obtain ⟨i, hi⟩ := List.getElem?_of_mem hx
  have hil : i < l.length := by have := (List.getElem?_eq_some_iff.1 hi).1; rwa [ksL_length] at this
  obtain ⟨v, hv⟩ := get_some l i hil
  rw [ksL_get hv] at hi
  rw [← Option.some.inj hi]; exact ksLf_D _ _ _
theorem ksL_take (l : List Int) (salt : ByteArray) (k : Nat) (v : Int) (h : l[k]? = some v) : (ksL l salt).take (k + 1) = (ksL l salt).take k ++ [ksLf k v.toNat (kslt salt k)] := take_snoc _ _ _ (ksL_get h)
theorem kof_length (l : List Int) (need total : Nat) (random : List Int) (i : Nat) : (kof l need total random i).length = total := shs_length _ _
theorem kof_get (l : List Int) (need total : Nat) (random : List Int) (i k : Nat) (h : k < total) : (kof l need total random i)[k]? = some ((k : Int) + 1, evp (kpoly l need random i) ((k : Int) + 1)) := by
  simp [kof, shs, h]
theorem khP_succ (l : List Int) (need total : Nat) (random : List Int) (j : Nat) : khP l need total random (j + 1) = khP l need total random j ++ (kof l need total random j).map (khLf j) := by
  simp [khP, List.range_succ]
theorem khP_length (l : List Int) (need total : Nat) (random : List Int) (j : Nat) : (khP l need total random j).length = j * total := by
  induction j with
  | zero => simp [khP]
  | succ j ih => rw [khP_succ, List.length_append, ih, List.length_map, kof_length, Nat.add_mul, Nat.one_mul]
theorem khP_get (l : List Int) (need total : Nat) (random : List Int) (j i k : Nat) (hi : i < j) (hk : k < total) :
    (khP l need total random j)[i * total + k]? = some (khLf i ((k : Int) + 1, evp (kpoly l need random i) ((k : Int) + 1))) := by
  induction j with
  | zero => omega
  | succ j ih =>
    rw [khP_succ]
    have hl := khP_length l need total random j
    by_cases h : i < j
    · have h1 : i * total + k < j * total := by
        have : (i + 1) * total ≤ j * total := Nat.mul_le_mul_right total h
        rw [Nat.add_mul] at this; omega
      rw [List.getElem?_append_left (by omega)]
      exact ih h
    · obtain rfl : i = j := by omega
      rw [List.getElem?_append_right (by omega), hl, show i * total + k - i * total = k by omega, List.getElem?_map, kof_get l need total random i k hk]; rfl
theorem khP_D (l : List Int) (need total : Nat) (random : List Int) (j : Nat) : allD (khP l need total random j) = true := by
  simp only [allD, List.all_eq_true]
  intro x hx
  obtain ⟨i, _, h⟩ := List.mem_flatMap.1 hx
  obtain ⟨s, _, rfl⟩ := List.mem_map.1 h
  exact khLf_D _ _
theorem allD_sm' {l : List ByteArray} (h : allD l = true) : sm l := fun s hs => by
  have := isD_16 (List.all_eq_true.1 h s hs); omega
theorem ksL_sm (l : List Int) (salt : ByteArray) : sm (ksL l salt) := allD_sm' (ksL_D l salt)
theorem khP_sm (l : List Int) (need total : Nat) (random : List Int) (j : Nat) : sm (khP l need total random j) := allD_sm' (khP_D l need total random j)

/-! ### sizes, and what the strings say -/
theorem dec_sz0 (n : Nat) (h : n < 100000000000000000000) : (dec n).size ≤ 20 := by
  have := dec_len n 19 h
  show (Go.Lib.decDigits n).toArray.size ≤ 20
  simpa using this
theorem khT_data (i : Nat) (s : Int × Int) : (khT i s).data.toList = Go.Lib.decDigits i ++ 32 :: (Go.Lib.decDigits s.1.toNat ++ 32 :: Go.Lib.decDigits s.2.toNat) := by
  simp [khT, dec, bSp]
theorem khT_size (i : Nat) (s : Int × Int) (hi : i < 10000000000) (h1 : s.1 < 10000000000) (h2 : s.2 < 10000000000) : (khT i s).size ≤ 60 := by
  have a0 := dec_len i 9 (by omega)
  have a1 := dec_len s.1.toNat 9 (by omega)
  have a2 := dec_len s.2.toNat 9 (by omega)
  have e : (khT i s).size = (khT i s).data.toList.length := by rw [Array.length_toList]; rfl
  rw [e, khT_data]
  simp only [List.length_append, List.length_cons]
  omega
theorem khT_inj {i j : Nat} {s t : Int × Int} (hs : 0 ≤ s.1 ∧ 0 ≤ s.2) (ht : 0 ≤ t.1 ∧ 0 ≤ t.2) (h : khT i s = khT j t) : i = j ∧ s = t := by
  have h1 := congrArg (fun x : ByteArray => x.data.toList) h
  simp only [khT_data] at h1
  obtain ⟨h2, h3⟩ := cut_eq32 _ _ _ _ (dd_no32 _) (dd_no32 _) h1
  obtain ⟨h4, h5⟩ := cut_eq32 _ _ _ _ (dd_no32 _) (dd_no32 _) h3
  have e2 := dd_inj h2
  have e4 := dd_inj h4
  have e5 := dd_inj h5
  exact ⟨e2, Prod.ext (by omega) (by omega)⟩
theorem dec_inj' {a b : Nat} (h : dec a = dec b) : a = b := by
  have h1 := congrArg (fun x : ByteArray => x.data.toList) h
  simp only [dec] at h1
  exact dd_inj h1
theorem ksT_inj {i j v x : Nat} {s t : ByteArray} (h : ksT i v s = ksT j x t) : i = j ∧ v = x ∧ s = t := by
  have := jb_inj h
  simp only [List.cons.injEq, and_true, true_and] at this
  exact ⟨dec_inj' this.1, dec_inj' this.2.1, this.2.2⟩

/-! ### what is valid -/
def sdV (l : List Int) : Bool := l.all fun v => decide (0 ≤ v ∧ v ≤ 719)
def sdOk (l : List Int) (salt : ByteArray) : Bool := sdV l && decide (1 ≤ l.length ∧ l.length ≤ 600 ∧ salt.size ≤ 400)
def rdOk (k : Nat) (need total : Int) (random : List Int) : Bool := decide (1 ≤ total ∧ total ≤ 7 ∧ 1 ≤ need ∧ need ≤ total ∧ (random.length : Int) = k * (need - 1)) && random.all elemB
/-- An opening is valid. -/
def ckB (root : ByteArray) (n ix v : Int) (salt : ByteArray) (p : List ByteArray) : Bool :=
  decide (1 ≤ n ∧ n ≤ 600 ∧ 0 ≤ ix ∧ ix ≤ n - 1 ∧ 0 ≤ v ∧ v ≤ 719) && isD salt && chkB root n ix (ksLf ix.toNat v.toNat salt) p
/-- A share that was kept is one of those that were committed. -/
def kvB (root : ByteArray) (n kp i : Int) (s : Int × Int) (p : List ByteArray) : Bool := chkB root (n * kp) (i * kp + s.1 - 1) (khLf i.toNat s) p

theorem sdV_at {l : List Int} (h : sdV l = true) {i : Nat} {v : Int} (hv : l[i]? = some v) : 0 ≤ v ∧ v ≤ 719 := by
  have := List.all_eq_true.1 h v (List.mem_of_getElem? hv)
  simpa using this
theorem ck_own {l : List Int} {salt : ByteArray} (h : sdOk l salt = true) {i : Nat} {v : Int} (hv : l[i]? = some v) :
    ckB (rt (ksL l salt)) (l.length : Int) (i : Int) v (kslt salt i) (pt (ksL l salt) i) = true := by
  simp only [sdOk, Bool.and_eq_true, decide_eq_true_eq] at h
  have hr := sdV_at h.1 hv
  have hi := (List.getElem?_eq_some_iff.1 hv).1
  have h1 := incl_yes (ksL l salt) i _ (ksL_D l salt) (ksL_get hv) (by rw [ksL_length]; omega)
  rw [ksL_length] at h1
  unfold ckB
  rw [decide_eq_true ⟨by omega, by omega, by omega, by omega, hr.1, hr.2⟩, Int.toNat_natCast, h1, show isD (kslt salt i) = true from isD_dg _]
  rfl
theorem kv_own (l : List Int) (need total : Nat) (random : List Int) (i k : Nat) (hl : l.length ≤ 600) (ht : total ≤ 16) (hi : i < l.length) (hk : k < total) :
    kvB (rt (khP l need total random l.length)) (l.length : Int) (total : Int) (i : Int) ((k : Int) + 1, evp (kpoly l need random i) ((k : Int) + 1)) (pt (khP l need total random l.length) (i * total + k)) = true := by
  have hb : l.length * total ≤ 600 * 16 := Nat.mul_le_mul hl ht
  have h1 := incl_yes (khP l need total random l.length) (i * total + k) _ (khP_D _ _ _ _ _) (khP_get l need total random l.length i k hi hk) (by rw [khP_length]; omega)
  rw [khP_length] at h1
  unfold kvB
  rw [Int.toNat_natCast]
  have e1 : (l.length : Int) * (total : Int) = ((l.length * total : Nat) : Int) := by rw [Int.natCast_mul]
  have e2 : (i : Int) * (total : Int) + ((k : Int) + 1, evp (kpoly l need random i) ((k : Int) + 1)).1 - 1 = ((i * total + k : Nat) : Int) := by
    rw [Int.natCast_add, Int.natCast_mul]; simp only; omega
  rw [e1, e2]; exact h1

/-! ### what is bound -/
/-- The strings that are digested for the root of seeds. -/
def ksTx (l : List Int) (salt : ByteArray) : List ByteArray :=
  (l.mapIdx fun i v => [ktT salt i, ksT i v.toNat (kslt salt i), jb [bLeaf, dg (ksT i v.toNat (kslt salt i))]]).flatten ++ txt (ksL l salt)
/-- .. to check an opening. -/
def koTx (n i v : Nat) (s : ByteArray) (p : List ByteArray) : List ByteArray := [ksT i v s, jb [bLeaf, dg (ksT i v s)]] ++ ptx n i (ksLf i v s) p
def khTx (l : List Int) (need total : Nat) (random : List Int) : List ByteArray :=
  ((List.range l.length).flatMap fun i => (kof l need total random i).map fun s => jb [bLeaf, khT i s]) ++ txt (khP l need total random l.length)
def kkTx (n kp i : Nat) (s : Int × Int) (p : List ByteArray) : List ByteArray := [jb [bLeaf, khT i s]] ++ ptx (n * kp) (i * kp + (s.1 - 1).toNat) (khLf i s) p

theorem ksTx_mem {l : List Int} {salt : ByteArray} {i : Nat} {v : Int} (h : l[i]? = some v) : ksT i v.toNat (kslt salt i) ∈ ksTx l salt ∧ jb [bLeaf, dg (ksT i v.toNat (kslt salt i))] ∈ ksTx l salt := by
  have hm : [ktT salt i, ksT i v.toNat (kslt salt i), jb [bLeaf, dg (ksT i v.toNat (kslt salt i))]] ∈ l.mapIdx fun i v => [ktT salt i, ksT i v.toNat (kslt salt i), jb [bLeaf, dg (ksT i v.toNat (kslt salt i))]] :=
    List.mem_of_getElem? (i := i) (by simp [h])
  exact ⟨List.mem_append.2 (.inl (List.mem_flatten.2 ⟨_, hm, by simp⟩)), List.mem_append.2 (.inl (List.mem_flatten.2 ⟨_, hm, by simp⟩))⟩

theorem ck_bind {l : List Int} {salt : ByteArray} (hsd : sdV l = true) {ix v : Int} {s : ByteArray} {p : List ByteArray} (h : ckB (rt (ksL l salt)) (l.length : Int) ix v s p = true) :
    ∃ (i : Nat) (x : Int), ix = (i : Int) ∧ l[i]? = some x ∧ p.length = plen l.length i ∧ allD p = true ∧ 0 ≤ v ∧ v ≤ 719 ∧ ((v = x ∧ s = kslt salt i) ∨ Col (ksTx l salt ++ koTx l.length i v.toNat s p)) := by
  simp only [ckB, Bool.and_eq_true, decide_eq_true_eq] at h
  obtain ⟨⟨⟨h1, h2, h3, h4, h5, h6⟩, h7⟩, h8⟩ := h
  obtain ⟨i, rfl⟩ : ∃ i : Nat, ix = (i : Int) := ⟨ix.toNat, by omega⟩
  obtain ⟨x, hx⟩ := get_some l i (by omega)
  rw [Int.toNat_natCast] at h8
  obtain ⟨g1, g2, g3⟩ := chk_parts h8
  refine ⟨i, x, rfl, hx, g3, g1, h5, h6, ?_⟩
  have hb := path_bind (ksL l salt) i (ksLf i v.toNat s) _ p (ksL_get hx) (by rw [ksL_length]; exact g2)
  rw [ksL_length] at hb
  obtain ⟨m1, m2⟩ := ksTx_mem (salt := salt) hx
  have n1 : ksT i v.toNat s ∈ koTx l.length i v.toNat s p := List.mem_append.2 (.inl (by simp))
  have n2 : jb [bLeaf, dg (ksT i v.toNat s)] ∈ koTx l.length i v.toNat s p := List.mem_append.2 (.inl (by simp))
  rcases hb with hb | hb
  · by_cases e1 : jb [bLeaf, dg (ksT i v.toNat s)] = jb [bLeaf, dg (ksT i x.toNat (kslt salt i))]
    · have e2 := jb_inj e1
      simp only [List.cons.injEq, and_true, true_and] at e2
      by_cases e3 : ksT i v.toNat s = ksT i x.toNat (kslt salt i)
      · obtain ⟨_, e4, e5⟩ := ksT_inj e3
        have hr := sdV_at hsd hx
        exact .inl ⟨by omega, e5⟩
      · exact .inr ⟨_, List.mem_append.2 (.inr n1), _, List.mem_append.2 (.inl m1), e3, e2⟩
    · exact .inr ⟨_, List.mem_append.2 (.inr n2), _, List.mem_append.2 (.inl m2), e1, hb⟩
  · refine .inr (hb.mono fun y hy => ?_)
    rcases List.mem_append.1 hy with hy | hy
    · exact List.mem_append.2 (.inl (List.mem_append.2 (.inr hy)))
    · exact List.mem_append.2 (.inr (List.mem_append.2 (.inr hy)))

theorem kv_bind {l : List Int} {need total : Nat} {random : List Int} {i : Nat} {s : Int × Int} {p : List ByteArray} (hi : i < l.length) (h1 : 1 ≤ s.1) (h2 : s.1 ≤ (total : Int)) (h3 : 0 ≤ s.2)
    (h : kvB (rt (khP l need total random l.length)) (l.length : Int) (total : Int) (i : Int) s p = true) :
    p.length = plen (l.length * total) (i * total + (s.1 - 1).toNat) ∧ allD p = true ∧ (s.2 = evp (kpoly l need random i) s.1 ∨ Col (khTx l need total random ++ kkTx l.length total i s p)) := by
  obtain ⟨k, hk⟩ : ∃ k : Nat, s.1 = (k : Int) + 1 := ⟨(s.1 - 1).toNat, by omega⟩
  have hkt : k < total := by omega
  have ek : (s.1 - 1).toNat = k := by omega
  unfold kvB at h
  have e1 : (l.length : Int) * (total : Int) = ((l.length * total : Nat) : Int) := by rw [Int.natCast_mul]
  have e2 : (i : Int) * (total : Int) + s.1 - 1 = ((i * total + k : Nat) : Int) := by
    rw [Int.natCast_add, Int.natCast_mul, hk]; omega
  rw [e1, e2, Int.toNat_natCast] at h
  obtain ⟨g1, g2, g3⟩ := chk_parts h
  have hg := khP_get l need total random l.length i k hi hkt
  have hb := path_bind (khP l need total random l.length) (i * total + k) (khLf i s) _ p hg (by rw [khP_length]; exact g2)
  rw [khP_length] at hb
  have m1 : jb [bLeaf, khT i ((k : Int) + 1, evp (kpoly l need random i) ((k : Int) + 1))] ∈ khTx l need total random := by
    refine List.mem_append.2 (.inl (List.mem_flatMap.2 ⟨i, List.mem_range.2 hi, List.mem_map.2 ⟨_, List.mem_of_getElem? (kof_get l need total random i k hkt), rfl⟩⟩))
  have n1 : jb [bLeaf, khT i s] ∈ kkTx l.length total i s p := List.mem_append.2 (.inl (by simp))
  refine ⟨by rw [ek]; exact g3, g1, ?_⟩
  rcases hb with hb | hb
  · by_cases e3 : jb [bLeaf, khT i s] = jb [bLeaf, khT i ((k : Int) + 1, evp (kpoly l need random i) ((k : Int) + 1))]
    · have e4 := jb_inj e3
      simp only [List.cons.injEq, and_true, true_and] at e4
      have hr := evp_range (kpoly l need random i) ((k : Int) + 1)
      obtain ⟨_, e5⟩ := khT_inj ⟨by omega, h3⟩ ⟨by simp only; omega, hr.1⟩ e4
      exact .inl (by rw [e5])
    · exact .inr ⟨_, List.mem_append.2 (.inr n1), _, List.mem_append.2 (.inl m1), e3, hb⟩
  · refine .inr (hb.mono fun y hy => ?_)
    rcases List.mem_append.1 hy with hy | hy
    · exact List.mem_append.2 (.inl (List.mem_append.2 (.inr hy)))
    · refine List.mem_append.2 (.inr (List.mem_append.2 (.inr ?_)))
      rw [ek]; exact hy

/-! ### joining what was kept -/
structure Kp where
  ix : Int
  s : Int × Int
  A : Option Addr
  c : Nat
  p : List ByteArray
structure Og where
  ix : Int
  v : Int
  salt : ByteArray
  A : Option Addr
  c : Nat
  p : List ByteArray

/-- A kept share that counts: for slot i, its place and value in range, valid. -/
def kgood (root : ByteArray) (n kp i : Int) (k : Kp) : Bool := decide (k.ix = i) && decide (1 ≤ k.s.1 ∧ k.s.1 ≤ kp) && elemB k.s.2 && kvB root n kp i k.s k.p
def jst (root : ByteArray) (n kp i : Int) (S : List (Int × Int)) (k : Kp) : List (Int × Int) := if kgood root n kp i k && !(S.map (·.1)).contains k.s.1 then S ++ [k.s] else S
def jfd (root : ByteArray) (n kp i : Int) (l : List Kp) : List (Int × Int) := l.foldl (jst root n kp i) []
noncomputable def kjn (root : ByteArray) (n kp i : Int) (l : List Kp) (need : Int) : Int × Int :=
  if ((jfd root n kp i l).length : Int) < need then (0, 25)
  else if (joinF (jfd root n kp i l) need).2 ≠ 0 ∨ 720 ≤ (joinF (jfd root n kp i l) need).1 then (0, 24) else ((joinF (jfd root n kp i l) need).1, 0)
theorem jfd_snoc (root : ByteArray) (n kp i : Int) {l : List Kp} {j : Nat} {k : Kp} (h : l[j]? = some k) : jfd root n kp i (l.take (j + 1)) = jst root n kp i (jfd root n kp i (l.take j)) k := by
  unfold jfd; rw [take_snoc l j k h, List.foldl_append]; rfl
theorem jst_sub (root : ByteArray) (n kp i : Int) (S : List (Int × Int)) (k : Kp) : (jst root n kp i S k).length ≤ S.length + 1 ∧ ∀ s, s ∈ S → s ∈ jst root n kp i S k := by
  unfold jst; split
  · exact ⟨by simp, fun s hs => List.mem_append.2 (.inl hs)⟩
  · exact ⟨by omega, fun s hs => hs⟩
/-- What is kept by the fold, from any start. -/
theorem jfold_mem (root : ByteArray) (n kp i : Int) (l : List Kp) (S : List (Int × Int)) :
    (∀ s, s ∈ l.foldl (jst root n kp i) S → s ∈ S ∨ ∃ k ∈ l, k.s = s ∧ kgood root n kp i k = true) ∧
    ((S.map (·.1)).Nodup → ((l.foldl (jst root n kp i) S).map (·.1)).Nodup) ∧ (∀ s, s ∈ S → s ∈ l.foldl (jst root n kp i) S) ∧
    (∀ k, k ∈ l → kgood root n kp i k = true → k.s.1 ∈ (l.foldl (jst root n kp i) S).map (·.1)) := by
  induction l generalizing S with
  | nil => exact ⟨fun s hs => .inl hs, fun h => h, fun s hs => hs, fun k hk => by cases hk⟩
  | cons k l ih =>
    obtain ⟨a1, a2, a3, a4⟩ := ih (jst root n kp i S k)
    rw [List.foldl_cons]
    refine ⟨fun s hs => ?_, fun h => a2 ?_, fun s hs => a3 s ((jst_sub root n kp i S k).2 s hs), fun q hq hg => ?_⟩
    · rcases a1 s hs with h | ⟨q, hq, h1, h2⟩
      · unfold jst at h
        split at h
        · next hc =>
          rcases List.mem_append.1 h with h | h
          · exact .inl h
          · simp only [Bool.and_eq_true] at hc
            exact .inr ⟨k, List.mem_cons_self, (List.mem_singleton.1 h).symm, hc.1⟩
        · exact .inl h
      · exact .inr ⟨q, List.mem_cons_of_mem _ hq, h1, h2⟩
    · unfold jst
      split
      · next hc =>
        simp only [Bool.and_eq_true, Bool.not_eq_true', List.contains_eq_mem, decide_eq_false_iff_not] at hc
        rw [List.map_append, List.nodup_append]
        refine ⟨h, by simp, fun x hx y hy e => ?_⟩
        simp only [List.map_cons, List.map_nil, List.mem_singleton] at hy
        exact hc.2 (by rw [← hy, ← e]; exact hx)
      · exact h
    · rcases List.mem_cons.1 hq with rfl | hq
      · by_cases hc : (S.map (·.1)).contains q.s.1 = true
        · obtain ⟨s, hs, he⟩ := List.mem_map.1 (by simpa using hc : q.s.1 ∈ S.map (·.1))
          rw [← he]
          exact List.mem_map_of_mem (f := (·.1)) (a3 s ((jst_sub root n kp i S q).2 s hs))
        · refine List.mem_map_of_mem (f := (·.1)) (a3 q.s ?_)
          unfold jst
          rw [hg, show (S.map (·.1)).contains q.s.1 = false by simpa using hc]
          exact List.mem_append.2 (.inr (by simp))
      · exact a4 q hq hg
theorem jfd_on {root : ByteArray} {n kp i : Int} {l : List Kp} {p : List Int} (hkp : kp ≤ 16) (h : ∀ k, k ∈ l → kgood root n kp i k = true → k.s.2 = evp p k.s.1) : On p (jfd root n kp i l) := by
  obtain ⟨a1, a2, _, _⟩ := jfold_mem root n kp i l []
  refine ⟨fun s hs => ?_, fun s hs => ?_, a2 (by simp)⟩
  · rcases a1 s hs with h1 | ⟨k, hk, rfl, hg⟩
    · cases h1
    · simp only [kgood, Bool.and_eq_true, decide_eq_true_eq] at hg
      omega
  · rcases a1 s hs with h1 | ⟨k, hk, rfl, hg⟩
    · cases h1
    · exact h k hk hg
theorem kjn_ok {root : ByteArray} {n kp i : Int} {l : List Kp} {p : List Int} {need : Nat} (hon : On p (jfd root n kp i l)) (h1 : 1 ≤ need) (h2 : need ≤ 16) (hp : p.length ≤ need) (hl : need ≤ (jfd root n kp i l).length) (hv : evp p 0 ≤ 719) :
    kjn root n kp i l (need : Int) = (evp p 0, 0) := by
  have hj := joinF_on p need _ hon h1 h2 hp hl
  unfold kjn
  rw [if_neg (by omega), hj, if_neg (by simp only; omega)]
theorem kjn_few {root : ByteArray} {n kp i : Int} {l : List Kp} {need : Int} (hl : ((jfd root n kp i l).length : Int) < need) : kjn root n kp i l need = (0, 25) := by
  unfold kjn; rw [if_pos hl]

/-! ### a draw -/
noncomputable def kone (c : ByteArray × ByteArray) (n kp i : Int) (o : Og) (l : List Kp) (need : Int) : Int × Int × Bool :=
  if o.ix = i ∧ ckB c.1 n o.ix o.v o.salt o.p = true then (o.v, 0, false) else ((kjn c.2 n kp i l need).1, (kjn c.2 n kp i l need).2, true)
def ksum (rs : List (Int × Int × Bool)) : Nat → Int
  | 0 => 0
  | k + 1 => (ksum rs k + ((rs[k]?.map (·.1)).getD 0)) % 720
def kwh (rs : List (Int × Int × Bool)) : Nat → List Int
  | 0 => []
  | k + 1 => kwh rs k ++ (if (rs[k]?.map (·.2.2)).getD false then [(k : Int)] else [])
def kall (rs : List (Int × Int × Bool)) : Int × List Int × Int :=
  match rs.find? (fun r => r.2.1 != 0) with
  | some r => (0, [], r.2.1)
  | none => (ksum rs rs.length, kwh rs rs.length, 0)
noncomputable def krs (cs : List (ByteArray × ByteArray)) (n i : Int) (os : List Og) (ks : List (List Kp)) (need : Int) : List (Int × Int × Bool) :=
  (List.zip cs (List.zip os ks)).map fun q => kone q.1 n (cs.length : Int) i q.2.1 q.2.2 need
noncomputable def kdraw (cs : List (ByteArray × ByteArray)) (n i : Int) (os : List Og) (ks : List (List Kp)) (need : Int) : Int × List Int × Int :=
  if 1 ≤ cs.length ∧ cs.length ≤ 7 ∧ 1 ≤ n ∧ n ≤ 600 ∧ 0 ≤ i ∧ i ≤ n - 1 ∧ 1 ≤ need ∧ need ≤ cs.length ∧ os.length = cs.length ∧ ks.length = cs.length then kall (krs cs n i os ks need) else (0, [], 1)
end

section
open Go.RowKit

theorem strs_in {w : World} {A : Option Addr} {c : Nat} {l : List ByteArray} (h : SlC w 1 StrC [.slice A l.length c] l) : Strs w A l ∧ l.length ≤ 9223372036854775807 := by
  obtain ⟨A', c', he, h1, h2, h3⟩ := h
  obtain ⟨rfl, rfl⟩ : A = A' ∧ c = c' := by simpa using he
  refine ⟨⟨by simp, fun hn => ?_⟩, by unfold maxLen at h2; omega⟩
  obtain ⟨b, off, rfl, _, hc⟩ := h3 hn
  refine ⟨b, off, rfl, fun j u hu => ?_⟩
  rw [List.getElem?_map] at hu
  cases hx : l[j]? with
  | none => rw [hx] at hu; cases hu
  | some x =>
    rw [hx] at hu
    have hu' : Value.string x = u := by simpa using hu
    obtain ⟨cs', hl, hcs, hr⟩ := hc j x hx
    have := hcs 0 (.string x) (by rw [hr.1]; rfl)
    rw [← hu']
    simpa using this
end

section
open Go.RowKit Go.ChangeShapes Go.WideShapes Go.Deep

def ShC (cs : List Value) (s : Int × Int) : Prop := cs = [.int .i64 s.1, .int .i64 s.2] ∧ (-9223372036854775808 ≤ s.1 ∧ s.1 ≤ 9223372036854775807) ∧ (-9223372036854775808 ≤ s.2 ∧ s.2 ≤ 9223372036854775807)

theorem opn_share (w : World) : Opn Tryz.prog w 48 ShC := by
  intro H enc n cs x h
  obtain ⟨V, rfl, hf⟩ := Opn.fields1 Tryz.underlying48 (by kernel_rfl) (by kernel_rfl) h
  obtain ⟨a0, h0, w0⟩ := hf 0 _ rfl (Opn.int Tryz.underlying3)
  obtain ⟨a1, h1, w1⟩ := hf 1 _ rfl (Opn.int Tryz.underlying3)
  refine ⟨(a0, a1), ?_, wf_i64_ w0, wf_i64_ w1⟩
  simp only [List.cons.injEq, and_true] at h0 h1
  simp [List.range_succ, h0, h1]

theorem ShC.val {v : Value} {s : Int × Int} (hv : v = .agg v.cells) (h : ShC v.cells.toList s) : v = .agg #[.int .i64 s.1, .int .i64 s.2] := by
  rw [hv]
  congr 1
  exact Array.toList_inj.1 h.1

theorem ints_in {w : World} {A : Option Addr} {c : Nat} {l : List Int} (h : SlC w 1 (IntC .i64) [.slice A l.length c] l) : Ints w A l ∧ l.length ≤ 9223372036854775807 := by
  obtain ⟨A', c', he, h1, h2, h3⟩ := h
  obtain ⟨rfl, rfl⟩ : A = A' ∧ c = c' := by simpa using he
  refine ⟨⟨by simp, fun hn => ?_⟩, by unfold maxLen at h2; omega⟩
  obtain ⟨b, off, rfl, _, hc⟩ := h3 hn
  refine ⟨b, off, rfl, fun j u hu => ?_⟩
  rw [List.getElem?_map] at hu
  cases hx : l[j]? with
  | none => rw [hx] at hu; cases hu
  | some x =>
    rw [hx] at hu
    obtain ⟨cs', _, hcs, hr, _⟩ := hc j x hx
    have := hcs 0 (.int .i64 x) (by rw [hr]; rfl)
    simp only [Nat.mul_one, Nat.add_zero] at this
    rw [this]; exact hu

theorem flat2_get (l : List (Int × Int)) (j : Nat) (u : Value) (h : (flat2 l)[j]? = some u) : ∃ (k r : Nat) (p : Int × Int), l[k]? = some p ∧ j = k * 2 + r ∧ [Value.int .i64 p.1, .int .i64 p.2][r]? = some u := by
  induction l generalizing j with
  | nil => simp [flat2] at h
  | cons p l ih =>
    have e : flat2 (p :: l) = .int .i64 p.1 :: .int .i64 p.2 :: flat2 l := rfl
    rw [e] at h
    match j, h with
    | 0, h => exact ⟨0, 0, p, rfl, rfl, h⟩
    | 1, h => exact ⟨0, 1, p, rfl, rfl, h⟩
    | j + 2, h =>
      obtain ⟨k, r, q, h1, h2, h3⟩ := ih j (by simpa using h)
      exact ⟨k + 1, r, q, by simpa using h1, by omega, h3⟩

theorem prs_in {w : World} {A : Option Addr} {c : Nat} {l : List (Int × Int)} (h : SlC w 2 ShC [.slice A l.length c] l) : Prs w A l ∧ l.length ≤ 9223372036854775807 := by
  obtain ⟨A', c', he, h1, h2, h3⟩ := h
  obtain ⟨rfl, rfl⟩ : A = A' ∧ c = c' := by simpa using he
  refine ⟨⟨flat2_length l, fun hn => ?_⟩, by unfold maxLen at h2; omega⟩
  obtain ⟨b, off, rfl, _, hc⟩ := h3 hn
  refine ⟨b, off, rfl, fun j u hu => ?_⟩
  obtain ⟨k, r, p, h4, rfl, h5⟩ := flat2_get l j u hu
  obtain ⟨cs', _, hcs, hr, _⟩ := hc k p h4
  have := hcs r u (by rw [hr]; exact h5)
  rw [← Nat.add_assoc]
  exact this
end

section
open Go.RowKit Go.ChangeShapes Go.WideShapes Go.Deep

/-! ### a row of elements of m cells each -/
theorem flatM_length {α : Type} (f : α → List Value) (m : Nat) (hf : ∀ a, (f a).length = m) (l : List α) : (l.flatMap f).length = l.length * m := by
  induction l with
  | nil => simp
  | cons a l ih => rw [List.flatMap_cons, List.length_append, ih, hf, List.length_cons, Nat.add_mul, Nat.one_mul, Nat.add_comm]
theorem flatM_at {α : Type} (f : α → List Value) (m : Nat) (hf : ∀ a, (f a).length = m) (l : List α) (k : Nat) (a : α) (h : l[k]? = some a) (j : Nat) (hj : j < m) : (l.flatMap f)[k * m + j]? = (f a)[j]? := by
  induction l generalizing k with
  | nil => simp at h
  | cons b l ih =>
    rw [List.flatMap_cons]
    cases k with
    | zero =>
      obtain rfl : b = a := by simpa using h
      rw [Nat.zero_mul, Nat.zero_add, List.getElem?_append_left (by rw [hf]; exact hj)]
    | succ k =>
      have := ih k (by simpa using h)
      rw [List.getElem?_append_right (by rw [hf, Nat.add_mul]; omega), hf, ← this]
      congr 1
      rw [Nat.add_mul]; omega
theorem flatM_get {α : Type} (f : α → List Value) (m : Nat) (hf : ∀ a, (f a).length = m) (l : List α) (j : Nat) (u : Value) (h : (l.flatMap f)[j]? = some u) : ∃ (k r : Nat) (a : α), l[k]? = some a ∧ j = k * m + r ∧ (f a)[r]? = some u := by
  induction l generalizing j with
  | nil => simp at h
  | cons b l ih =>
    rw [List.flatMap_cons] at h
    by_cases hj : j < m
    · rw [List.getElem?_append_left (by rw [hf]; exact hj)] at h
      exact ⟨0, j, b, rfl, by omega, h⟩
    · rw [List.getElem?_append_right (by rw [hf]; omega), hf] at h
      obtain ⟨k, r, a, h1, h2, h3⟩ := ih (j - m) h
      exact ⟨k + 1, r, a, by simpa using h1, by rw [Nat.add_mul]; omega, h3⟩

/-- A slice whose elements are f of a list's (m cells each). -/
def RowOf {α : Type} (f : α → List Value) (m : Nat) (w : World) (A : Option Addr) (l : List α) : Prop := Rd w m A l.length (l.flatMap f)
theorem RowOf.below {α : Type} {f : α → List Value} {m : Nat} {w w' : World} {A : Option Addr} {l : List α} (h : RowOf f m w A l) (hb : Below w.heap.size w w') : RowOf f m w' A l := Rd.below h hb
theorem RowOf.at_ {α : Type} {f : α → List Value} {m : Nat} {w : World} {A : Option Addr} {l : List α} (h : RowOf f m w A l) (hf : ∀ a, (f a).length = m) {k : Nat} {a : α} (hk : l[k]? = some a) :
    ∃ b off, A = some ⟨b, off, none⟩ ∧ ∀ j u, (f a)[j]? = some u → w.cell? ⟨b, off + k * m + j, none⟩ = some u := by
  have hl : k < l.length := (List.getElem?_eq_some_iff.1 hk).1
  obtain ⟨b, off, e, hc⟩ := h.2 (by omega)
  refine ⟨b, off, e, fun j u hu => ?_⟩
  have hj : j < m := by have := (List.getElem?_eq_some_iff.1 hu).1; rwa [hf] at this
  rw [Nat.add_assoc]
  exact hc _ _ (by rw [flatM_at f m hf l k a hk j hj]; exact hu)
theorem RowOf.nil {α : Type} (f : α → List Value) (m : Nat) (w : World) (A : Option Addr) : RowOf f m w A ([] : List α) := Rd.nil w m A
theorem row_in {α : Type} {f : α → List Value} {m : Nat} (hf : ∀ a, (f a).length = m) {w : World} {R : List Value → α → Prop} (hR : ∀ cs a, R cs a → cs = f a) {A : Option Addr} {c : Nat} {l : List α} (h : SlC w m R [.slice A l.length c] l) :
    RowOf f m w A l ∧ l.length ≤ c ∧ l.length ≤ 9223372036854775807 ∧ ∀ a, a ∈ l → ∃ cs, R cs a := by
  obtain ⟨A', c', he, h1, h2, h3⟩ := h
  obtain ⟨rfl, rfl⟩ : A = A' ∧ c = c' := by simpa using he
  refine ⟨⟨flatM_length f m hf l, fun hn => ?_⟩, h1, by unfold maxLen at h2; omega, fun a ha => ?_⟩
  · obtain ⟨b, off, rfl, _, hc⟩ := h3 hn
    refine ⟨b, off, rfl, fun j u hu => ?_⟩
    obtain ⟨k, r, a, h4, rfl, h5⟩ := flatM_get f m hf l j u hu
    obtain ⟨cs', _, hcs, hr⟩ := hc k a h4
    have := hcs r u (by rw [hR cs' a hr]; exact h5)
    rw [← Nat.add_assoc]
    exact this
  · obtain ⟨k, hk⟩ := List.getElem?_of_mem ha
    obtain ⟨b, off, _, _, hc⟩ := h3 (by have := (List.getElem?_eq_some_iff.1 hk).1; omega)
    obtain ⟨cs', _, _, hr⟩ := hc k a hk
    exact ⟨cs', hr⟩

/-! ### openings, kept shares, commitments, keepers -/
def ogC (a : Og) : List Value := [.int .i64 a.ix, .int .i64 a.v, .string a.salt, .slice a.A a.p.length a.c]
def kpC (a : Kp) : List Value := [.int .i64 a.ix, .int .i64 a.s.1, .int .i64 a.s.2, .slice a.A a.p.length a.c]
def cmC (a : ByteArray × ByteArray) : List Value := [.string a.1, .string a.2]
structure Kr where
  SA : Option Addr
  sc : Nat
  seeds : List Int
  salt : ByteArray
  RA : Option Addr
  rc : Nat
  random : List Int
def krC (a : Kr) : List Value := [.slice a.SA a.seeds.length a.sc, .string a.salt, .slice a.RA a.random.length a.rc]
structure Kw where
  A : Option Addr
  c : Nat
  l : List Kp
def kwC (a : Kw) : List Value := [.slice a.A a.l.length a.c]
theorem ogC_len (a : Og) : (ogC a).length = 4 := rfl
theorem kpC_len (a : Kp) : (kpC a).length = 4 := rfl
theorem cmC_len (a : ByteArray × ByteArray) : (cmC a).length = 2 := rfl
theorem krC_len (a : Kr) : (krC a).length = 3 := rfl
theorem kwC_len (a : Kw) : (kwC a).length = 1 := rfl

def i64ok (x : Int) : Prop := -9223372036854775808 ≤ x ∧ x ≤ 9223372036854775807
/-- What else is known of an opening in memory. -/
structure OgIn (w : World) (a : Og) : Prop where
  p : Strs w a.A a.p
  cap : a.p.length ≤ a.c
  len : a.p.length ≤ 9223372036854775807
  ix : i64ok a.ix
  v : i64ok a.v
  salt : a.salt.size ≤ 9223372036854775807
structure KpIn (w : World) (a : Kp) : Prop where
  p : Strs w a.A a.p
  cap : a.p.length ≤ a.c
  len : a.p.length ≤ 9223372036854775807
  ix : i64ok a.ix
  x : i64ok a.s.1
  y : i64ok a.s.2
theorem OgIn.below {w w' : World} {a : Og} (h : OgIn w a) (hb : Below w.heap.size w w') : OgIn w' a := ⟨h.p.below hb, h.cap, h.len, h.ix, h.v, h.salt⟩
theorem KpIn.below {w w' : World} {a : Kp} (h : KpIn w a) (hb : Below w.heap.size w w') : KpIn w' a := ⟨h.p.below hb, h.cap, h.len, h.ix, h.x, h.y⟩
structure KrIn (w : World) (a : Kr) : Prop where
  s : Ints w a.SA a.seeds
  r : Ints w a.RA a.random
  sl : a.seeds.length ≤ 9223372036854775807
  rl : a.random.length ≤ 9223372036854775807
  sc : a.seeds.length ≤ a.sc
  rc : a.random.length ≤ a.rc
  salt : a.salt.size ≤ 9223372036854775807
  scm : a.sc ≤ 9223372036854775807
  rcm : a.rc ≤ 9223372036854775807
theorem KrIn.below {w w' : World} {a : Kr} (h : KrIn w a) (hb : Below w.heap.size w w') : KrIn w' a := ⟨h.s.below hb, h.r.below hb, h.sl, h.rl, h.sc, h.rc, h.salt, h.scm, h.rcm⟩
structure KwIn (w : World) (a : Kw) : Prop where
  row : RowOf kpC 4 w a.A a.l
  each : ∀ k, k ∈ a.l → KpIn w k
  len : a.l.length ≤ 9223372036854775807
theorem KwIn.below {w w' : World} {a : Kw} (h : KwIn w a) (hb : Below w.heap.size w w') : KwIn w' a := ⟨h.row.below hb, fun k hk => (h.each k hk).below hb, h.len⟩

def OgC (w : World) (cs : List Value) (a : Og) : Prop := cs = ogC a ∧ OgIn w a
def KpC (w : World) (cs : List Value) (a : Kp) : Prop := cs = kpC a ∧ KpIn w a
def CmC (cs : List Value) (a : ByteArray × ByteArray) : Prop := cs = cmC a ∧ a.1.size ≤ 9223372036854775807 ∧ a.2.size ≤ 9223372036854775807
def KrC (w : World) (cs : List Value) (a : Kr) : Prop := cs = krC a ∧ KrIn w a
def KwC (w : World) (cs : List Value) (a : Kw) : Prop := cs = kwC a ∧ KwIn w a

theorem cs4_of {cs : List Value} (hl : cs.length = 4) : ∃ a b c d, cs = [a, b, c, d] := by
  match cs, hl with
  | [a, b, c, d], _ => exact ⟨a, b, c, d, rfl⟩

theorem opn_og (w : World) : Opn Tryz.prog w 32 (OgC w) := by
  intro H enc n cs x h
  obtain ⟨V, rfl, hf⟩ := Opn.fields1 Tryz.underlying32 (by kernel_rfl) (by kernel_rfl) h
  obtain ⟨a0, h0, w0⟩ := hf 0 _ rfl (Opn.int Tryz.underlying3)
  obtain ⟨a1, h1, w1⟩ := hf 1 _ rfl (Opn.int Tryz.underlying3)
  obtain ⟨a2, h2, w2⟩ := hf 2 _ rfl (Opn.str Tryz.underlying9)
  obtain ⟨a3, h3⟩ := hf 3 _ rfl (Opn.slice Tryz.underlying30 (m := 1) (by kernel_rfl) (by decide) (Opn.str Tryz.underlying9))
  have h3' := h3
  obtain ⟨A, c, he, hl1, hl2, -⟩ := h3'
  have he : V 3 = .slice A a3.length c := by simpa using he
  rw [he] at h3
  obtain ⟨i1, i2⟩ := strs_in h3
  simp only [List.cons.injEq, and_true] at h0 h1 h2
  refine ⟨⟨a0, a1, a2, A, c, a3⟩, ?_, i1, hl1, i2, wf_i64_ w0, wf_i64_ w1, by unfold maxLen at w2; omega⟩
  simp [List.range_succ, ogC, h0, h1, h2, he]

theorem opn_kp (w : World) : Opn Tryz.prog w 50 (KpC w) := by
  intro H enc n cs x h
  obtain ⟨hl, hf⟩ := Opn.fields Tryz.underlying50 h
  have hl : cs.length = 4 := hl.trans (by kernel_rfl)
  obtain ⟨c0, c1, c2, c3, rfl⟩ := cs4_of hl
  obtain ⟨a0, h0⟩ := hf 0 _ rfl (Opn.int Tryz.underlying3)
  obtain ⟨a1, h1⟩ := hf 1 _ rfl (opn_share w)
  obtain ⟨a2, h2⟩ := hf 2 _ rfl (Opn.slice Tryz.underlying30 (m := 1) (by kernel_rfl) (by decide) (Opn.str Tryz.underlying9))
  have k0 : Tryz.prog.cellsOf 3 = 1 := by kernel_rfl
  have k1 : Tryz.prog.cellsOf 48 = 2 := by kernel_rfl
  have k2 : Tryz.prog.cellsOf 30 = 1 := by kernel_rfl
  have h0 : IntC .i64 (([c0, c1, c2, c3].drop 0).take (Tryz.prog.cellsOf 3)) a0 := h0
  have h1 : ShC (([c0, c1, c2, c3].drop 1).take (Tryz.prog.cellsOf 48)) a1 := h1
  have h2 : SlC w 1 StrC (([c0, c1, c2, c3].drop 3).take (Tryz.prog.cellsOf 30)) a2 := h2
  rw [k0] at h0
  rw [k1] at h1
  rw [k2] at h2
  obtain ⟨e0, w0⟩ := h0
  obtain rfl : c0 = .int .i64 a0 := by simpa using e0
  obtain ⟨e1, e2, e3⟩ := h1
  have e1 : c1 = .int .i64 a1.1 ∧ c2 = .int .i64 a1.2 := by simpa using e1
  obtain ⟨rfl, rfl⟩ := e1
  have h2 : SlC w 1 StrC [c3] a2 := h2
  have h3 := h2
  obtain ⟨A, c, he, hl1, hl2, -⟩ := h3
  obtain rfl : c3 = .slice A a2.length c := by simpa using he
  obtain ⟨i1, i2⟩ := strs_in h2
  exact ⟨⟨a0, a1, A, c, a2⟩, rfl, i1, hl1, i2, wf_i64_ w0, e2, e3⟩

theorem opn_cm (w : World) : Opn Tryz.prog w 29 CmC := by
  intro H enc n cs x h
  obtain ⟨V, rfl, hf⟩ := Opn.fields1 Tryz.underlying29 (by kernel_rfl) (by kernel_rfl) h
  obtain ⟨a0, h0, w0⟩ := hf 0 _ rfl (Opn.str Tryz.underlying9)
  obtain ⟨a1, h1, w1⟩ := hf 1 _ rfl (Opn.str Tryz.underlying9)
  simp only [List.cons.injEq, and_true] at h0 h1
  refine ⟨(a0, a1), ?_, by unfold maxLen at w0; exact w0, by unfold maxLen at w1; exact w1⟩
  simp [List.range_succ, cmC, h0, h1]

theorem opn_kr (w : World) : Opn Tryz.prog w 27 (KrC w) := by
  intro H enc n cs x h
  obtain ⟨V, rfl, hf⟩ := Opn.fields1 Tryz.underlying27 (by kernel_rfl) (by kernel_rfl) h
  obtain ⟨a0, h0⟩ := hf 0 _ rfl (Opn.slice Tryz.underlying23 (m := 1) (by kernel_rfl) (by decide) (Opn.int Tryz.underlying3))
  obtain ⟨a1, h1, w1⟩ := hf 1 _ rfl (Opn.str Tryz.underlying9)
  obtain ⟨a2, h2⟩ := hf 2 _ rfl (Opn.slice Tryz.underlying23 (m := 1) (by kernel_rfl) (by decide) (Opn.int Tryz.underlying3))
  have h0' := h0
  obtain ⟨A, c, he0, hl1, hl2, -⟩ := h0'
  have he0 : V 0 = .slice A a0.length c := by simpa using he0
  rw [he0] at h0
  have h2' := h2
  obtain ⟨B, d, he2, hm1, hm2, -⟩ := h2'
  have he2 : V 2 = .slice B a2.length d := by simpa using he2
  rw [he2] at h2
  obtain ⟨i1, i2⟩ := ints_in h0
  obtain ⟨j1, j2⟩ := ints_in h2
  simp only [List.cons.injEq, and_true] at h1
  unfold maxLen at hl2 hm2 w1
  refine ⟨⟨A, c, a0, a1, B, d, a2⟩, ?_, i1, j1, i2, j2, hl1, hm1, w1, hl2, hm2⟩
  simp [List.range_succ, krC, h1, he0, he2]

theorem opn_kw (w : World) : Opn Tryz.prog w 33 (KwC w) :=
  (Opn.slice Tryz.underlying33 (m := 4) (by kernel_rfl) (by decide) (opn_kp w)).map fun cs a h => by
    have h' := h
    obtain ⟨A, c, rfl, h1, h2, -⟩ := h'
    obtain ⟨i1, _, i3, i4⟩ := row_in kpC_len (fun cs a (hR : KpC w cs a) => hR.1) h
    exact ⟨⟨A, c, a⟩, rfl, i1, fun k hk => by obtain ⟨_, _, hk⟩ := i4 k hk; exact hk, i3⟩
end

section
open Go.RowKit

set_option maxRecDepth 100000 in
set_option maxHeartbeats 1600000 in
theorem split_bad (secret : Int) (n m : Nat) (A : Option Addr) (c : Nat) (random : List Int) (w : World) (hA : Ints w A random) (h1 : 1 ≤ n) (h2 : n ≤ m) (h3 : m ≤ 16) (hn : random.length + 1 ≤ n) (hn' : n ≤ random.length + 1)
    (hall : (secret :: random).all elemB = false) :
    Calls Tryz.prog 101 #[.int .i64 secret, .int .i64 n, .int .i64 m, .slice A random.length c] w fun e w' =>
      e = .returned (.tuple #[.slice none 0 0, .int .i64 1]) ∧ Below w.heap.size w w' := by
  have HA := Lib.hid hA; clear hA
  have HALL := Lib.hid hall; clear hall
  have hmf : ∀ (fn : Fn) (first cap : Array Value) (w : World), (Instr.makeFunc fn first cap).run Tryz.prog w = .ok (.func fn first cap) w := fun _ _ _ _ => rfl
  have hb1 : ((random.length : Int) != (n : Int) - 1) = false := by simp; omega
  have hb2 : ((random.length : Int) == (n : Int) - 1) = true := by simp; omega
  obtain ⟨i0, hi0, hz0, hz1, hz2⟩ := info_parts info_int
  have hown0 := World.ownsRow_lit (base := w.heap.size) (e := 3) (size := 1) w #[Value.int .i64 secret] 1 (Nat.le_refl _) (by simp [maxLen]) rfl
  have HO := Lib.hid hown0; clear hown0
  go_enter Tryz.func101, Tryz.ntmps101
  go_wp2_with (at_builtin; refine wpList_app _ rfl (.tmp 41) (.tmp 42) 159 23 rfl w.heap.size 3 3 i0 (.int .i64 0) 1 8 Tryz.underlying159 Tryz.underlying23 hi0 hz0 hz1 hz2 rfl (by omega) _ 1 _ rfl HO.out A random.length c _ rfl (HA.out.below (below_alloc (Below.refl _ _) _)) (ints_oneCell _ _) (by simp only [maxLen]; omega) (by omega) (by simp) ?_)
  intro v1 w1 hown1 hg1
  obtain ⟨A1, c1, hv1, hc1, hm1, hrd1⟩ := Rd.of_own hown1
  obtain ⟨p, hp⟩ : ∃ p, p = secret :: random := ⟨_, rfl⟩
  have hpl : 1 + random.length = p.length := by rw [hp]; simp; omega
  rw [hpl] at hv1 hrd1
  have hp1 : p.length ≤ 16 := by omega
  subst hv1
  have hI1 : Ints w1 A1 p := by rw [hp] at hrd1 ⊢; exact hrd1
  have hB1 : Below w.heap.size w w1 := (below_alloc (Below.refl _ _) _).grown hg1 (by simp) (by simp [Value.ownBlock])
  clear hown1 hg1 hrd1 hpl
  have HI1 := Lib.hid hI1; clear hI1
  have HB1 := Lib.hid hB1; clear hB1
  rw [← hp] at HALL
  have HP := Lib.hid hp
  clear hp HO HA hn hn' hb1 hb2
  go_wp2_with fail
  go_loop [46] (fun u => ∃ k : Nat, k ≤ p.length ∧ u = .int .i64 k ∧ (p.take k).all elemB = true) (fun u => p.length - (intOf u).toNat)
  case atStart => exact ⟨0, Nat.zero_le _, rfl, rfl⟩
  case round =>
    obtain ⟨k, hk, rfl, hall⟩ := hrel
    have HAL := Lib.hid hall
    clear hall
    by_cases hlt : k < p.length
    · obtain ⟨x, hx⟩ := get_some p k hlt
      obtain ⟨b, off, rfl, hcell⟩ := HI1.out.at_ hx
      have HX := Lib.hid hx
      clear hx
      cases hex : elemB x
      case false =>
        have HEX := Lib.hid hex
        clear hex
        go_wp2_with fail
        refine (selement_any _ _).mono ?_
        rintro e w' ⟨rfl, rfl⟩
        rw [HEX.out]
        go_wp2
        go_ret2
        exact ⟨rfl, HB1.out⟩
      case true =>
        have HEX := Lib.hid hex
        clear hex
        go_wp2_with fail
        refine (selement_any _ _).mono ?_
        rintro e w' ⟨rfl, rfl⟩
        rw [HEX.out]
        go_wp2
        go_round
        case rel => exact ⟨k + 1, by omega, by go_num, by rw [all_take_succ _ _ _ _ HX.out, HAL.out, HEX.out]; rfl⟩
        case measure => simp [intOf]; omega
    · exfalso
      obtain rfl : k = p.length := by omega
      have := HAL.out
      rw [List.take_length, HALL.out] at this
      cases this

def splitOk (secret need total : Int) (random : List Int) : Bool := decide (1 ≤ total ∧ total ≤ 16 ∧ 1 ≤ need ∧ need ≤ total ∧ (random.length : Int) = need - 1) && (secret :: random).all elemB
def splitL (secret need total : Int) (random : List Int) : List (Int × Int) := if splitOk secret need total random then shs (secret :: random) total.toNat else []

set_option maxRecDepth 100000 in
set_option maxHeartbeats 4000000 in
theorem split_all (secret need total : Int) (A : Option Addr) (c : Nat) (random : List Int) (w : World) (hA : Ints w A random) (hmax : random.length ≤ 9223372036854775807) :
    Calls Tryz.prog 101 #[.int .i64 secret, .int .i64 need, .int .i64 total, .slice A random.length c] w fun e w' =>
      ∃ v, e = .returned (.tuple #[v, .int .i64 (if splitOk secret need total random then 0 else 1)]) ∧ w'.ownsRow w.heap.size 48 2 v (splitL secret need total random).length (flat2 (splitL secret need total random)) ∧ Below w.heap.size w w' := by
  by_cases hargs : 1 ≤ total ∧ total ≤ 16 ∧ 1 ≤ need ∧ need ≤ total ∧ (random.length : Int) = need - 1
  · obtain ⟨n, rfl⟩ : ∃ n : Nat, need = n := ⟨need.toNat, by omega⟩
    obtain ⟨m, rfl⟩ : ∃ m : Nat, total = m := ⟨total.toNat, by omega⟩
    cases hv : (secret :: random).all elemB
    · have e : splitOk secret n m random = false := by unfold splitOk; rw [hv, Bool.and_false]
      unfold splitL
      rw [e]
      exact (split_bad secret n m A c random w hA (by omega) (by omega) (by omega) (by omega) (by omega) hv).mono fun _ _ ⟨he, hb⟩ => ⟨_, he, ⟨rfl, .inl ⟨rfl, rfl⟩⟩, hb⟩
    · have e : splitOk secret n m random = true := by unfold splitOk; rw [hv, decide_eq_true hargs]; rfl
      unfold splitL
      rw [e, if_pos rfl, if_pos rfl, Int.toNat_natCast, shs_length]
      exact split_any secret n m A c random w hA (by omega) (by omega) (by omega) (by omega) (by omega) hv
  · have e : splitOk secret need total random = false := by unfold splitOk; rw [decide_eq_false hargs, Bool.false_and]
    unfold splitL
    rw [e]
    clear hA e
    by_cases h1 : total < 1
    · have dh1 : decide (total < 1) = true := decide_eq_true h1
      go_enter Tryz.func101, Tryz.ntmps101
      go_wp2
      go_ret2
      exact ⟨_, rfl, ⟨rfl, .inl ⟨rfl, rfl⟩⟩, Below.refl _ _⟩
    have dh1 : decide (total < 1) = false := decide_eq_false h1
    by_cases h2 : 16 < total
    · have dh2 : decide (16 < total) = true := decide_eq_true h2
      go_enter Tryz.func101, Tryz.ntmps101
      go_wp2
      go_ret2
      exact ⟨_, rfl, ⟨rfl, .inl ⟨rfl, rfl⟩⟩, Below.refl _ _⟩
    have dh2 : decide (16 < total) = false := decide_eq_false h2
    by_cases h3 : need < 1
    · have dh3 : decide (need < 1) = true := decide_eq_true h3
      go_enter Tryz.func101, Tryz.ntmps101
      go_wp2
      go_ret2
      exact ⟨_, rfl, ⟨rfl, .inl ⟨rfl, rfl⟩⟩, Below.refl _ _⟩
    have dh3 : decide (need < 1) = false := decide_eq_false h3
    by_cases h4 : total < need
    · have dh4 : decide (total < need) = true := decide_eq_true h4
      go_enter Tryz.func101, Tryz.ntmps101
      go_wp2
      go_ret2
      exact ⟨_, rfl, ⟨rfl, .inl ⟨rfl, rfl⟩⟩, Below.refl _ _⟩
    have dh4 : decide (total < need) = false := decide_eq_false h4
    have hsub : IntKind.i64.wrap (need - 1) = need - 1 := by rw [IntWalk.i64_in _ (by omega)]
    have hb1 : ((random.length : Int) == need - 1) = false := by simp only [beq_eq_false_iff_ne, ne_eq]; omega
    have hb2 : ((random.length : Int) != need - 1) = true := by rw [bne, hb1]; rfl
    clear hargs
    go_enter Tryz.func101, Tryz.ntmps101
    go_wp2
    go_ret2
    exact ⟨_, rfl, ⟨rfl, .inl ⟨rfl, rfl⟩⟩, Below.refl _ _⟩
end

section
open Go.RowKit

theorem row_mono {w : World} {B B' e size n : Nat} {v : Value} {xs : List Value} (h : w.ownsRow B e size v n xs) (hb : B' ≤ B) : w.ownsRow B' e size v n xs := by
  refine ⟨h.1, ?_⟩
  rcases h.2 with hn | ⟨g, cap, cur, rfl, hg, rest⟩
  · exact .inl hn
  · exact .inr ⟨g, cap, cur, rfl, by omega, rest⟩
/-- A path that reads, in a block of strings. -/
def PathIn (w : World) (A : Option Addr) (l : List ByteArray) : Prop := Strs w A l ∧ ∀ a, A = some a → ∃ cs, w.heap[a.block]? = some (.cells cs 9 (0, 0))
theorem PathIn.keep {w w' : World} {A : Option Addr} {l : List ByteArray} (h : PathIn w A l) (hb : ∀ a cs, A = some a → w.heap[a.block]? = some (.cells cs 9 (0, 0)) → w'.heap[a.block]? = w.heap[a.block]?) : PathIn w' A l := by
  refine ⟨⟨h.1.1, fun hn => ?_⟩, fun a ha => ?_⟩
  · obtain ⟨b, off, e, hc⟩ := h.1.2 hn
    obtain ⟨cs, hcs⟩ := h.2 _ e
    have hbb : w'.heap[b]? = w.heap[b]? := hb _ cs e hcs
    exact ⟨b, off, e, fun j u hu => (World.cell?_of_block (w := w) (w' := w') (a := ⟨b, off + j, none⟩) hbb).trans (hc j u hu)⟩
  · obtain ⟨cs, hcs⟩ := h.2 a ha
    exact ⟨cs, (hb a cs ha hcs).trans hcs⟩
theorem PathIn.below {w w' : World} {A : Option Addr} {l : List ByteArray} (h : PathIn w A l) (hb : Below w.heap.size w w') : PathIn w' A l := h.keep fun a cs _ hcs => hb.block _ (Array.getElem?_eq_some_iff.1 hcs).1
theorem PathIn.chg {w w' : World} {F : List Nat} {A : Option Addr} {l : List ByteArray} (h : PathIn w A l) (hc : Chg F w w') (hA : ∀ a, A = some a → a.block ∉ F) : PathIn w' A l := h.keep fun a cs ha hcs => hc.block _ (Array.getElem?_eq_some_iff.1 hcs).1 (hA a ha)
def wiB (n lo hi : Int) : Bool := decide (lo ≤ n ∧ n ≤ hi)
theorem kwithin_any (n lo hi : Int) (w : World) :
    Calls Tryz.prog 52 #[.int .i64 n, .int .i64 lo, .int .i64 hi] w fun e w' => e = .returned (.bool (wiB n lo hi)) ∧ w = w' := by
  unfold wiB
  by_cases h0 : lo ≤ n
  · by_cases h1 : n ≤ hi
    · go_enter Tryz.func52, Tryz.ntmps52
      go_wp2
      go_ret
      exact ⟨ret_bool (by simp [h0, h1]), rfl⟩
    · go_enter Tryz.func52, Tryz.ntmps52
      go_wp2
      go_ret
      exact ⟨ret_bool (by simp [h1]), rfl⟩
  · go_enter Tryz.func52, Tryz.ntmps52
    go_wp2
    go_ret
    exact ⟨ret_bool (by simp; omega), rfl⟩

set_option maxHeartbeats 2000000 in
theorem ksval_any (A : Option Addr) (c : Nat) (l : List Int) (salt : ByteArray) (w : World) (hA : Ints w A l) (hl : l.length ≤ 9223372036854775807) (hs : salt.size ≤ 9223372036854775807) :
    Calls Tryz.prog 51 #[.agg #[.slice A l.length c, .string salt]] w fun e w' => e = .returned (.bool (sdOk l salt)) ∧ Below w.heap.size w w' := by
  have HA : Hid (∀ W, Below w.heap.size w W → Ints W A l) := Lib.hid (fun W hW => hA.below hW)
  have HW0 := Lib.hid (below_alloc (Below.refl w.heap.size w) (.cells #[.slice A l.length c, .string salt] 86))
  have HE : Hid (sdV l = true → sdOk l salt = (wiB l.length 1 600 && decide (salt.size ≤ 400))) := Lib.hid (fun h => by
    unfold sdOk wiB; rw [h, Bool.true_and, Bool.eq_iff_iff]; simp only [Bool.and_eq_true, decide_eq_true_eq]; omega)
  have HN : Hid (sdV l = false → sdOk l salt = false) := Lib.hid (fun h => by unfold sdOk; rw [h]; rfl)
  generalize sdOk l salt = r at *
  have hsv : (l.all fun v => decide (0 ≤ v ∧ v ≤ 719)) = sdV l := rfl
  have HSV := Lib.hid hsv
  clear hA hsv
  go_enter Tryz.func51, Tryz.ntmps51
  go_wp2
  go_loop [4, 8] (fun _ u8 => ∃ k : Nat, k ≤ l.length ∧ u8 = .int .i64 k ∧ ((l.take k).all fun v => decide (0 ≤ v ∧ v ≤ 719)) = true) (fun _ u8 => l.length - (intOf u8).toNat)
  case atStart => exact ⟨0, Nat.zero_le _, rfl, rfl⟩
  case round =>
  obtain ⟨k, hk, rfl, hall⟩ := hrel
  have HALL := Lib.hid hall
  clear hall
  by_cases hlt : k < l.length
  case pos =>
    obtain ⟨x, hx⟩ := get_some l k hlt
    obtain ⟨b, off, rfl, hcell⟩ := (HA.out _ HW0.out).at_ hx
    have hlc := lt_of_cell hcell
    have HX := Lib.hid hx
    clear hx
    obtain ⟨bx, hbx⟩ : ∃ b, wiB x 0 719 = b := ⟨_, rfl⟩
    have HBX := Lib.hid hbx
    go_wp2_with fail
    refine (kwithin_any _ _ _ _).mono ?_
    rintro e w' ⟨rfl, rfl⟩
    rw [hbx]
    clear hbx
    cases bx with
    | false =>
      have hf : sdV l = false := by rw [← HSV.out]; exact all_false_of _ l k x HX.out HBX.out
      have HF := Lib.hid (HN.out hf)
      clear hf
      go_wp2
      go_ret
      exact ⟨ret_bool HF.out.symm, HW0.out⟩
    | true =>
      go_wp2
      go_round
      case rel => exact ⟨k + 1, by omega, by go_num, by rw [all_take_succ _ l k x HX.out, HALL.out]; exact HBX.out⟩
      case measure => simp [intOf]; omega
  case neg =>
  obtain rfl : k = l.length := by omega
  have hv : sdV l = true := by rw [← HSV.out]; have := HALL.out; rwa [List.take_of_length_le (Nat.le_refl _)] at this
  have HRE := Lib.hid (HE.out hv)
  clear hv
  obtain ⟨b1, hb1⟩ : ∃ b, wiB l.length 1 600 = b := ⟨_, rfl⟩
  have HB1 := Lib.hid hb1
  by_cases h4 : salt.size ≤ 400
  all_goals
    go_wp2_with fail
    refine (kwithin_any _ _ _ _).mono ?_
    rintro e w' ⟨rfl, rfl⟩
    rw [hb1]
    cases b1
    all_goals
      clear hb1
      go_wp2
      go_ret
      exact ⟨ret_bool (by rw [HRE.out, HB1.out]; first | (simp [h4]; done) | (simp [h4]; omega)), HW0.out⟩

/-! ### salts and leaves -/
theorem jn_salt (salt : ByteArray) (i : Nat) (hs : salt.size ≤ 400) (hi : i ≤ 1000000) : (jn [bSalt, salt, dec i]).length ≤ 1000000 := by
  have h1 := dec_len salt.size 9 (by omega)
  have h2 := dec_len i 9 (by omega)
  have h3 := dec_len (dec i).size 9 (by show (Go.Lib.decDigits i).length < _; omega)
  have h4 : (dec i).data.toList.length = (Go.Lib.decDigits i).length := rfl
  have h5 : salt.data.toList.length = salt.size := by rw [Array.length_toList]; rfl
  simp only [jn_cons, List.length_append, List.length_cons, h4, h5]
  have h6 : (Go.Lib.decDigits bSalt.size).length ≤ 10 := dec_len _ 9 (by decide)
  have h7 : bSalt.data.toList.length = 4 := rfl
  have h8 : (jn []).length = 0 := rfl
  omega
theorem jn_seed (i v : Nat) (s : ByteArray) (hi : i ≤ 1000000) (hv : v ≤ 1000000) (hs : s.size ≤ 400) : (jn [bSeed, dec i, dec v, s]).length ≤ 1000000 := by
  have h1 := dec_len s.size 9 (by omega)
  have h2 := dec_len i 9 (by omega)
  have h2' := dec_len v 9 (by omega)
  have h3 := dec_len (dec i).size 9 (by show (Go.Lib.decDigits i).length < _; omega)
  have h3' := dec_len (dec v).size 9 (by show (Go.Lib.decDigits v).length < _; omega)
  have h4 : (dec i).data.toList.length = (Go.Lib.decDigits i).length := rfl
  have h4' : (dec v).data.toList.length = (Go.Lib.decDigits v).length := rfl
  have h5 : s.data.toList.length = s.size := by rw [Array.length_toList]; rfl
  simp only [jn_cons, List.length_append, List.length_cons, h4, h4', h5]
  have h6 : (Go.Lib.decDigits bSeed.size).length ≤ 10 := dec_len _ 9 (by decide)
  have h7 : bSeed.data.toList.length = 4 := rfl
  have h8 : (jn []).length = 0 := rfl
  omega
theorem kslt_size (salt : ByteArray) (i : Nat) : (kslt salt i).size = 16 := dg_size _

set_option maxHeartbeats 4000000 in
theorem ksalted_any (v : Value) (salt : ByteArray) (i : Nat) (w : World) (hs : salt.size ≤ 400) (hi : i ≤ 1000000) (hT : Tabs w) :
    Calls Tryz.prog 54 #[.agg #[v, .string salt], .int .i64 i] w fun e w' => e = .returned (.string (kslt salt i)) ∧ Below w.heap.size w w' := by
  obtain ⟨w0, hw0⟩ : ∃ w0, w.alloc (.cells #[v, .string salt] 86) = w0 := ⟨_, rfl⟩
  have HB0 : Hid (Below w.heap.size w w0) := Lib.hid (by rw [← hw0]; exact below_alloc (Below.refl _ _) _)
  have HK : Hid (∀ W, Below w0.heap.size w0 W → W.cell? ⟨w.heap.size, 1, none⟩ = some (.string salt)) := Lib.hid (fun W hW => by
    have hb : Blk w0 w.heap.size 86 #[v, .string salt] := by rw [← hw0]; exact Blk.new w _ _ _ rfl
    exact kept_cell hW (hb.of_cell (i := 1) rfl))
  have HT : Hid (∀ W, Below w.heap.size w W → Tabs W) := Lib.hid (fun W hW => hT.below hW)
  have HL : Hid (∀ (A : Option Addr) (c : Nat) W, Strs W A [bSalt, salt, dec i] → Below w.heap.size w W → Calls Tryz.prog 96 #[.slice A 3 c] W fun e w' => e = .returned (.string (kslt salt i)) ∧ Below W.heap.size W w') := Lib.hid (fun A c W hS hW => list_any A c [bSalt, salt, dec i] W hS (hT.below hW) (jn_salt salt i hs hi) (by simp))
  have hin : i ≤ 9223372036854775807 := by omega
  clear hT
  go_enter Tryz.func54, Tryz.ntmps54
  go_wp2_with fail
  clear hw0
  refine wp_region_held_drew (S := fun W => Below w0.heap.size w0 W) (by kernel_rfl) ((Below.refl _ _).drew) (fun hS0 => ?_)
  refine wpAnyH_take (i := 0) (v := ?_) rfl (by kernel_rfl) (by kernel_rfl) (by kernel_rfl) (fun _ _ _ h => h) (Or.inl ⟨by kernel_rfl, ?hy⟩) hS0 ?rest
  case hy => (intro W hSw; clear hSw; go_simp; with_reducible rfl)
  case rest =>
  refine wpAnyH_take (i := 1) (v := ?_) rfl (by kernel_rfl) (by kernel_rfl) (by kernel_rfl) (fun _ _ _ h => h) (Or.inl ⟨by kernel_rfl, ?hy⟩) hS0 ?rest
  case hy => (intro W hSw; have z := HK.out W hSw; have zl := lt_of_cell z; clear hSw; go_simp; with_reducible rfl)
  case rest =>
  refine wpAnyH_take (i := 2) (v := ?_) rfl (by kernel_rfl) (by kernel_rfl) (by kernel_rfl) (fun _ _ _ h => h) (Or.inl ⟨by kernel_rfl, ?hy⟩) hS0 ?rest
  case hy => (intro W hSw; clear hSw; go_simp; with_reducible rfl)
  case rest =>
  refine wpAnyH_ready (rs := [3]) (by kernel_rfl) (by simp) ?_
  refine AllReadyH.cons rfl (fun K hK => ?_) (AllReadyH.nil)
  go_simp
  refine (itoa_any i hin _ (HT.out _ (below_trans HB0.out hS0))).mono ?_
  rintro e wa ⟨rfl, hb⟩
  have HBA := Lib.hid (below_trans hS0 hb)
  go_simp
  refine hK.out _ _ HBA.out (fun hS1 => ?_)
  clear hK K hb
  refine wpAnyH_ready (rs := [4]) (by kernel_rfl) (by simp) ?_
  refine AllReadyH.cons rfl (fun K hK => ?_) (AllReadyH.nil)
  go_simp
  have hst : Strs (wa.alloc (.cells #[.string bSalt, .string salt, .string (dec i)] 9)) (some ⟨wa.heap.size, 0, none⟩) [bSalt, salt, dec i] := Strs_new wa _ _ _ _ rfl rfl
  have HST := Lib.hid hst
  clear hst
  refine hK.out _ _ (below_alloc HBA.out _) (fun hS2 => ?_)
  clear hK K
  refine wpAnyH_ready (rs := [5]) (by kernel_rfl) (by simp) ?_
  refine AllReadyH.cons rfl (fun K hK => ?_) (AllReadyH.nil)
  go_simp
  refine (HL.out _ _ _ HST.out (below_trans HB0.out (below_alloc HBA.out _))).mono ?_
  rintro e wb ⟨rfl, hb⟩
  have HBB := Lib.hid (below_trans (below_alloc HBA.out _) hb)
  go_simp
  refine hK.out _ _ HBB.out (fun hS3 => ?_)
  clear hK K hb
  refine wpAnyH_take (i := 6) (v := ?_) rfl (by kernel_rfl) (by kernel_rfl) (by kernel_rfl) (fun _ _ _ h => h) (Or.inl ⟨by kernel_rfl, ?hy⟩) hS3 ?rest
  case hy => (intro W hSw; clear hSw; go_simp; with_reducible rfl)
  case rest =>
  refine wpAnyH_done (by kernel_rfl) ?_ _
  clear hS3
  go_wp2
  go_ret
  exact ⟨rfl, below_trans HB0.out HBB.out⟩
set_option maxHeartbeats 4000000 in
theorem kleaf_any (i v : Nat) (s : ByteArray) (w : World) (hi : i ≤ 1000000) (hv : v ≤ 1000000) (hs : s.size ≤ 400) (hT : Tabs w) :
    Calls Tryz.prog 66 #[.int .i64 i, .int .i64 v, .string s] w fun e w' => e = .returned (.string (ksLf i v s)) ∧ Below w.heap.size w w' := by
  have HT : Hid (∀ W, Below w.heap.size w W → Tabs W) := Lib.hid (fun W hW => hT.below hW)
  have HL : Hid (∀ (A : Option Addr) (c : Nat) W, Strs W A [bSeed, dec i, dec v, s] → Below w.heap.size w W → Calls Tryz.prog 96 #[.slice A 4 c] W fun e w' => e = .returned (.string (dg (ksT i v s))) ∧ Below W.heap.size W w') := Lib.hid (fun A c W hS hW => list_any A c [bSeed, dec i, dec v, s] W hS (hT.below hW) (jn_seed i v s hi hv hs) (by simp))
  have HF : Hid (∀ W, Below w.heap.size w W → Calls Tryz.prog 111 #[.string (dg (ksT i v s))] W fun e w' => e = .returned (.string (ksLf i v s)) ∧ Below W.heap.size W w') := Lib.hid (fun W hW => leaf_any _ (by rw [dg_size]; omega) W (hT.below hW))
  generalize dg (ksT i v s) = d at *
  generalize ksLf i v s = r at *
  have hin : i ≤ 9223372036854775807 := by omega
  have hvn : v ≤ 9223372036854775807 := by omega
  clear hT
  go_enter Tryz.func66, Tryz.ntmps66
  go_wp2_with fail
  refine (itoa_any i hin _ (HT.out _ (Below.refl _ _))).mono ?_
  rintro e w1 ⟨rfl, hb⟩
  have HB1 := Lib.hid hb
  clear hb
  go_wp2_with fail
  refine (itoa_any v hvn _ (HT.out _ HB1.out)).mono ?_
  rintro e w2 ⟨rfl, hb⟩
  have HB2 := Lib.hid (below_trans HB1.out hb)
  clear hb
  go_wp2_with fail
  refine (HL.out _ _ _ (Strs_new w2 #[.string bSeed, .string (dec i), .string (dec v), .string s] _ _ [bSeed, dec i, dec v, s] rfl rfl) (below_alloc HB2.out _)).mono ?_
  rintro e w3 ⟨rfl, hb⟩
  have HB3 := Lib.hid (below_trans (below_alloc HB2.out _) hb)
  clear hb
  go_wp2_with fail
  refine (HF.out _ HB3.out).mono ?_
  rintro e w4 ⟨rfl, hb⟩
  have HB4 := Lib.hid (below_trans HB3.out hb)
  clear hb
  go_wp2
  go_ret
  exact ⟨rfl, HB4.out⟩

set_option maxHeartbeats 4000000 in
theorem kleaves_any (A : Option Addr) (c : Nat) (l : List Int) (salt : ByteArray) (w : World) (hA : Ints w A l) (hok : sdOk l salt = true) (hT : Tabs w) :
    Calls Tryz.prog 44 #[.agg #[.slice A l.length c, .string salt]] w fun e w' => ∃ v, e = .returned v ∧ w'.ownsRow w.heap.size 9 1 v l.length ((ksL l salt).map Value.string) ∧ Below w.heap.size w w' := by
  obtain ⟨w0, hw0⟩ : ∃ w0, w.alloc (.cells #[.slice A l.length c, .string salt] 86) = w0 := ⟨_, rfl⟩
  have hk := hok
  simp only [sdOk, Bool.and_eq_true, decide_eq_true_eq] at hk
  obtain ⟨hsv, h1, h6, hs4⟩ := hk
  have HB0 : Hid (Below w.heap.size w w0) := Lib.hid (by rw [← hw0]; exact below_alloc (Below.refl _ _) _)
  have HK : Hid (∀ W, Below w0.heap.size w0 W → W.cell? ⟨w.heap.size, 0, none⟩ = some (.slice A l.length c) ∧ W.cell? ⟨w.heap.size, 1, none⟩ = some (.string salt)) := Lib.hid (fun W hW => by
    have hb : Blk w0 w.heap.size 86 #[.slice A l.length c, .string salt] := by rw [← hw0]; exact Blk.new w _ _ _ rfl
    exact ⟨kept_cell hW (hb.of_cell (i := 0) rfl), kept_cell hW (hb.of_cell (i := 1) rfl)⟩)
  have HT : Hid (∀ W, Below w.heap.size w W → Tabs W) := Lib.hid (fun W hW => hT.below hW)
  have HA : Hid (∀ W, Below w.heap.size w W → Ints W A l) := Lib.hid (fun W hW => hA.below hW)
  have HV : Hid (∀ (k : Nat) (x : Int), l[k]? = some x → 0 ≤ x ∧ x ≤ 719) := Lib.hid (fun k x h => sdV_at hsv h)
  have HLT : Hid (∀ (k : Nat) (x : Int), l[k]? = some x → (ksL l salt).take (k + 1) = (ksL l salt).take k ++ [ksLf k x.toNat (kslt salt k)]) := Lib.hid (fun k x h => ksL_take l salt k x h)
  have HLN := Lib.hid (ksL_length l salt)
  obtain ⟨i0, hi0, hz0, hz1, hz2⟩ := info_parts info_strg
  have HI := Lib.hid (And.intro hi0 (And.intro hz0 (And.intro hz1 hz2)))
  have HO0 : Hid (w0.ownsRow w0.heap.size 9 1 (.slice none 0 0) 0 (((ksL l salt).take 0).map Value.string)) := Lib.hid (World.ownsRow_nil _ _ _ _)
  generalize ksL l salt = R at *
  clear hA hT hok hsv hi0 hz0 hz1 hz2
  have z0 := (HK.out w0 (Below.refl _ _)).1
  have zl := lt_of_cell z0
  go_enter Tryz.func44, Tryz.ntmps44
  go_wp2_with fail
  clear hw0 z0 zl
  go_loopw [3, 4, 5, 9] (fun u3 _ _ u9 wr => ∃ k : Nat, k ≤ l.length ∧ u9 = .int .i64 k ∧ Below w0.heap.size w0 wr ∧ wr.ownsRow w0.heap.size 9 1 u3 k ((R.take k).map Value.string)) (fun _ _ _ u9 _ => l.length - (intOf u9).toNat)
  case atStart => exact ⟨0, Nat.zero_le _, rfl, Below.refl _ _, HO0.out⟩
  case round =>
  obtain ⟨k, hk, rfl, hb, ho⟩ := hrel
  have HBk := Lib.hid hb
  have HOk := Lib.hid ho
  have HBw := Lib.hid (below_trans HB0.out hb)
  clear hb ho
  by_cases hlt : k < l.length
  case neg =>
    obtain rfl : k = l.length := by omega
    have ho := HOk.out
    rw [List.take_of_length_le (by rw [HLN.out]; exact Nat.le_refl _)] at ho
    have HO := Lib.hid ho
    clear ho
    go_wp2
    go_ret
    exact ⟨_, rfl, row_mono HO.out HB0.out.size, HBw.out⟩
  case pos =>
  obtain ⟨x, hx⟩ := get_some l k hlt
  obtain ⟨b, off, rfl, hcell⟩ := (HA.out wr HBw.out).at_ hx
  have hcl := lt_of_cell hcell
  have hxr := HV.out k x hx
  obtain ⟨X, rfl⟩ : ∃ X : Nat, x = X := ⟨x.toNat, by omega⟩
  have HX := Lib.hid (HLT.out k X hx)
  obtain ⟨z0, z1⟩ := HK.out wr HBk.out
  have zl := lt_of_cell z0
  clear hx
  go_wp2_with fail
  refine (ksalted_any _ salt k wr hs4 (by omega) (HT.out _ HBw.out)).mono ?_
  rintro e w1 ⟨rfl, hb1⟩
  have HB1 := Lib.hid (below_trans HBk.out hb1)
  have HO1 := Lib.hid (row_below HOk.out hb1)
  clear hb1 z0 z1 zl hcell hcl
  go_wp2_with fail
  refine (kleaf_any k X (kslt salt k) w1 (by omega) (by omega) (by rw [kslt_size]; omega) (HT.out _ (below_trans HB0.out HB1.out))).mono ?_
  rintro e w2 ⟨rfl, hb2⟩
  have HB2 := Lib.hid (below_trans HB1.out hb2)
  have HO2 := Lib.hid (row_below HO1.out hb2)
  have hx' := HX.out
  rw [Int.toNat_natCast] at hx'
  have HX' := Lib.hid hx'
  clear hb2 hx'
  generalize ksLf k X (kslt salt k) = d at *
  have hsz : w0.heap.size ≤ w2.heap.size := HB2.out.size
  go_wp2_with (at_builtin; refine wpList_app _ rfl (.tmp 14) (.tmp 21) 30 30 rfl w0.heap.size 9 9 i0 _ 1 16 Tryz.underlying30 Tryz.underlying30 HI.out.1 HI.out.2.1 HI.out.2.2.1 HI.out.2.2.2 rfl (by omega) _ k _ rfl (HO2.out.alloc _) _ 1 1 [.string d] rfl (Rd_new w2 #[.string d] _ 1 1 _ rfl rfl) (by simp [Value.oneCell']) (by simp only [maxLen]; omega) (by omega) (by simp; omega) ?_)
  intro v1 w3 hown3 hg3
  have e3 : (R.map Value.string).take k ++ [.string d] = (R.take (k + 1)).map Value.string := by rw [HX'.out, List.map_append, List.map_take]; rfl
  try rw [List.map_take] at hown3
  rw [e3] at hown3
  have HB3 : Hid (Below w0.heap.size w0 w3) := Lib.hid ((below_alloc HB2.out _).grown hg3 (by simp; omega) (fun j hj => (HO2.out.lt j hj).1))
  have HOWN3 := Lib.hid hown3
  clear hown3 hg3 e3
  go_wp2
  go_roundw
  case rel => exact ⟨k + 1, by omega, by go_num, HB3.out, HOWN3.out⟩
  case measure => simp [intOf]; omega
end

end Go.Proofs.YtjfondfjdhjooaaGreatDoor
