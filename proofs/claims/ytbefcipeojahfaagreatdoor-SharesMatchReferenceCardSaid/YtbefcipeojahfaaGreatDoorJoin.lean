/- The contract of shares.Join, at every list. -/
import Derived.Test.YtbefcipeojahfaaGreatDoorSplit
namespace Go.Proofs.YtbefcipeojahfaaGreatDoor
open Go.RowKit

/-! ### plain: how often a place occurs -/
def cnt (l : List (Int × Int)) (k : Nat) (j : Nat) : Int := ((l.take k).map (·.1)).count (j : Int)

theorem cnt_zero (l : List (Int × Int)) (j : Nat) : cnt l 0 j = 0 := by simp [cnt]

theorem cnt_succ (l : List (Int × Int)) (k : Nat) (s : Int × Int) (hs : l[k]? = some s) (j : Nat) : cnt l (k + 1) j = cnt l k j + if (j : Int) = s.1 then 1 else 0 := by
  unfold cnt
  rw [take_snoc l k s hs, List.map_append, List.count_append]
  by_cases h : (j : Int) = s.1
  · simp [h]
  · have : ¬ s.1 = (j : Int) := fun e => h e.symm
    simp [h, this]

theorem cnt_le (l : List (Int × Int)) (k j : Nat) : 0 ≤ cnt l k j ∧ cnt l k j ≤ k := by
  unfold cnt
  have h1 := List.count_le_length (a := (j : Int)) (l := (l.take k).map (·.1))
  have h2 := List.length_take_le k l
  rw [List.length_map] at h1
  omega

theorem validB_iff (s : Int × Int) : validB s = true ↔ 1 ≤ s.1 ∧ s.1 ≤ 16 ∧ elemB s.2 = true := by
  simp [validB, and_assoc]

theorem nodup_of_cnt (l : List (Int × Int)) (hv : l.all validB = true) (h : ∀ j : Nat, j < 17 → cnt l l.length j ≤ 1) : (l.map (·.1)).Nodup := by
  rw [List.nodup_iff_count]
  intro a
  by_cases hm : a ∈ l.map (·.1)
  · obtain ⟨s, hs, rfl⟩ := List.mem_map.1 hm
    have := (validB_iff s).1 (List.all_eq_true.1 hv s hs)
    have h1 := h s.1.toNat (by omega)
    unfold cnt at h1
    rw [List.take_length, show ((s.1.toNat : Nat) : Int) = s.1 by omega] at h1
    omega
  · rw [List.count_eq_zero_of_not_mem hm]; omega

theorem dup_of_cnt (l : List (Int × Int)) (j : Nat) (h : 1 < cnt l l.length j) : ¬ (l.map (·.1)).Nodup := by
  intro hn
  have := List.nodup_iff_count.1 hn (j : Int)
  unfold cnt at h
  rw [List.take_length] at h
  omega

/-- What Join computes. -/
noncomputable def joinF (l : List (Int × Int)) (need : Int) : Int × Int := by
  classical exact
  if need < 1 ∨ 16 < need then (0, 1) else if l.all validB = false then (0, 1) else if ¬ (l.map (·.1)).Nodup then (0, 8)
  else if (l.length : Int) < need then (0, 25)
  else if (l.drop need.toNat).all (fun s => nv s.1 (l.take need.toNat) (need.toNat - 1) 0 == s.2) = false then (0, 24)
  else (nv 0 (l.take need.toNat) (need.toNat - 1) 0, 0)

theorem joinF_need (l : List (Int × Int)) (need : Int) (h : need < 1 ∨ 16 < need) : joinF l need = (0, 1) := by unfold joinF; rw [if_pos h]
theorem joinF_bad (l : List (Int × Int)) (need : Int) (h : 1 ≤ need) (h' : need ≤ 16) (hv : l.all validB = false) : joinF l need = (0, 1) := by
  unfold joinF; rw [if_neg (by omega), if_pos hv]
theorem joinF_dup (l : List (Int × Int)) (need : Int) (h : 1 ≤ need) (h' : need ≤ 16) (hv : l.all validB = true) (hd : ¬ (l.map (·.1)).Nodup) : joinF l need = (0, 8) := by
  unfold joinF; rw [if_neg (by omega), if_neg (by simp [hv]), if_pos hd]
theorem joinF_few (l : List (Int × Int)) (need : Int) (h : 1 ≤ need) (h' : need ≤ 16) (hv : l.all validB = true) (hd : (l.map (·.1)).Nodup) (hl : (l.length : Int) < need) : joinF l need = (0, 25) := by
  unfold joinF; rw [if_neg (by omega), if_neg (by simp [hv]), if_neg (by simpa using hd), if_pos hl]
theorem joinF_wrong (l : List (Int × Int)) (n : Nat) (h : 1 ≤ n) (h' : n ≤ 16) (hv : l.all validB = true) (hd : (l.map (·.1)).Nodup) (hl : n ≤ l.length)
    (k : Nat) (s : Int × Int) (hs : (l.drop n)[k]? = some s) (hw : ¬ nv s.1 (l.take n) (n - 1) 0 = s.2) : joinF l n = (0, 24) := by
  unfold joinF; rw [if_neg (by omega), if_neg (by simp [hv]), if_neg (by simpa using hd), if_neg (by omega), if_pos]
  rw [Int.toNat_natCast]
  exact all_false_of _ _ k s hs (by simpa using hw)
theorem joinF_ok (l : List (Int × Int)) (n : Nat) (h : 1 ≤ n) (h' : n ≤ 16) (hv : l.all validB = true) (hd : (l.map (·.1)).Nodup) (hl : n ≤ l.length)
    (hw : ∀ s, s ∈ l.drop n → nv s.1 (l.take n) (n - 1) 0 = s.2) : joinF l n = (nv 0 (l.take n) (n - 1) 0, 0) := by
  unfold joinF; rw [if_neg (by omega), if_neg (by simp [hv]), if_neg (by simpa using hd), if_neg (by omega), if_neg]
  · rw [Int.toNat_natCast]
  · rw [Int.toNat_natCast, Bool.not_eq_false, List.all_eq_true]
    intro s hs
    simpa using hw s hs

theorem Arr.zeros17 (w : World) (T : Nat) : Arr (w.alloc (.cells #[.int .i64 0, .int .i64 0, .int .i64 0, .int .i64 0, .int .i64 0, .int .i64 0, .int .i64 0, .int .i64 0, .int .i64 0, .int .i64 0, .int .i64 0, .int .i64 0, .int .i64 0, .int .i64 0, .int .i64 0, .int .i64 0, .int .i64 0] T)) w.heap.size T 17 (fun _ => 0) := by
  refine ⟨_, heap_alloc_new w _, rfl, fun j hj => ?_⟩
  match j, hj with
  | 0, _ | 1, _ | 2, _ | 3, _ | 4, _ | 5, _ | 6, _ | 7, _ | 8, _ | 9, _ | 10, _ | 11, _ | 12, _ | 13, _ | 14, _ | 15, _ | 16, _ => rfl
  | n + 17, h => omega

theorem info_point : (Tryz.prog.info? 60).map (fun i => (i.zero, i.size, i.bytes)) = some (some (.agg #[.int .i64 0, .int .i64 0]), 2, 16) := by kernel_rfl

set_option maxRecDepth 100000 in
set_option maxRecDepth 100000 in
set_option maxHeartbeats 8000000 in
theorem join_full (A : Option Addr) (c : Nat) (l : List (Int × Int)) (need : Int) (w : World) (hA : Prs w A l) (hlen : l.length ≤ 1000000) (hcap : l.length ≤ c) :
    Calls Tryz.prog 9 #[.slice A l.length c, .int .i64 need] w fun e w' =>
      e = .returned (.tuple #[.int .i64 (joinF l need).1, .int .i64 (joinF l need).2]) ∧ Below w.heap.size w w' := by
  by_cases hneed : need < 1 ∨ 16 < need
  · have hJ := Lib.hid (joinF_need l need hneed)
    rcases hneed with hneed | hneed
    · go_enter Tryz.func9, Tryz.ntmps9
      go_wp2
      go_ret2
      rw [hJ.out]
      exact ⟨rfl, Below.refl _ _⟩
    · go_enter Tryz.func9, Tryz.ntmps9
      go_wp2
      go_ret2
      rw [hJ.out]
      exact ⟨rfl, Below.refl _ _⟩
  have hn1 : 1 ≤ need := by omega
  have hn16 : need ≤ 16 := by omega
  clear hneed
  obtain ⟨n, rfl⟩ := Int.eq_ofNat_of_zero_le (show 0 ≤ need by omega)
  have HA := Lib.hid hA; clear hA
  go_enter Tryz.func9, Tryz.ntmps9
  go_wp2_with fail
  go_loopw [27] (fun u27 wr => ∃ (k : Nat) (f : Nat → Int), k ≤ l.length ∧ u27 = .int .i64 k ∧ Below w.heap.size w wr ∧ Arr wr w.heap.size 56 17 f ∧ (∀ j, j < 17 → f j = cnt l k j) ∧ (l.take k).all validB = true) (fun u27 _ => l.length - (intOf u27).toNat)
  case atStart => exact ⟨0, _, Nat.zero_le _, rfl, below_alloc (Below.refl _ _) _, Arr.zeros17 _ _, by simp [cnt_zero], rfl⟩
  case round =>
    obtain ⟨k, f, hk, rfl, hB, hAr, hf, hall⟩ := hrel
    have HB := Lib.hid hB; clear hB
    have HAR := Lib.hid hAr; clear hAr
    have HF := Lib.hid hf; clear hf
    have HALL := Lib.hid hall; clear hall
    have hlt0 := HAR.out.lt
    by_cases hlt : k < l.length
    · obtain ⟨s, hs⟩ := get_some l k hlt
      obtain ⟨b, off, rfl, hc1, hc2⟩ := (HA.out.below HB.out).at_ hs
      have HS := Lib.hid hs; clear hs
      cases hv : validB s
      · have hj := joinF_bad l n hn1 hn16 (all_false_of validB l k s HS.out hv)
        have HJ := Lib.hid hj; clear hj
        have HV := Lib.hid hv; clear hv
        go_wp2_with fail
        refine (valid_any s.1 s.2 _).mono ?_
        rintro e w' ⟨rfl, rfl⟩
        rw [HV.out]
        go_wp2
        go_ret2
        rw [HJ.out]
        exact ⟨rfl, below_alloc (below_alloc HB.out _) _⟩
      · obtain ⟨x1, x16, -⟩ := (validB_iff s).1 hv
        have HV := Lib.hid hv; clear hv
        have hcx := HAR.out.cell s.1.toNat (by omega)
        have hfx := HAR.out.frozen s.1.toNat
        have hb1 := cnt_le l k s.1.toNat
        rw [← HF.out s.1.toNat (by omega)] at hb1
        obtain ⟨b1, b2⟩ := hb1
        have hix : (0 : Int) ≤ s.1 := by omega
        have hix2 : s.1 < 17 := by omega
        go_wp2_with fail
        refine (valid_any s.1 s.2 _).mono ?_
        rintro e w' ⟨rfl, rfl⟩
        rw [HV.out]
        go_wp2
        go_roundw
        case rel =>
          refine ⟨k + 1, _, by omega, by go_num, (((HB.out).setCell (p := ⟨w.heap.size, s.1.toNat, none⟩) (Nat.le_refl _) _).alloc (by have := HB.out.size; simp; omega) _).alloc (by have := HB.out.size; simp; omega) _,
            ((HAR.out.set s.1.toNat (f s.1.toNat + 1)).alloc _).alloc _, fun j hj => ?_, by rw [all_take_succ validB l k s HS.out, HALL.out, HV.out]; rfl⟩
          rw [cnt_succ l k s HS.out j]
          by_cases hji : j = s.1.toNat
          · subst hji
            simp only [if_true]
            rw [if_pos (by omega), HF.out _ hj]
          · simp only [hji, if_false]
            rw [if_neg (by omega), HF.out _ hj]; omega
        case measure => simp [intOf]; omega
    · have hkl : l.length ≤ k := by omega
      have hall : l.all validB = true := by have := HALL.out; rwa [List.take_of_length_le hkl] at this
      have hfc : ∀ j, j < 17 → f j = cnt l l.length j := fun j hj => by rw [HF.out j hj]; unfold cnt; rw [List.take_of_length_le hkl, List.take_length]
      have HFC := Lib.hid hfc; clear hfc
      have HVA := Lib.hid hall; clear hall
      obtain ⟨cs, hcs, hcz, hcj⟩ := HAR.out
      have HCS := Lib.hid hcs; clear hcs
      have HCZ := Lib.hid hcz; clear hcz
      have HCJ := Lib.hid hcj; clear hcj
      go_wp2_with (refine wpList_load_row rfl 56 _ rfl w.heap.size rfl 56 cs _ _ HCS.out Tryz.underlying56 rfl (by rw [HCZ.out]; kernel_rfl) ?_)
      go_loop [10, 42] (fun _ u42 => ∃ i : Nat, i ≤ 17 ∧ u42 = .int .i64 i ∧ ∀ j, j < i → f j ≤ 1) (fun _ u42 => 17 - (intOf u42).toNat)
      case atStart => exact ⟨0, by omega, rfl, by simp⟩
      case round =>
        obtain ⟨i, hi, rfl, hle⟩ := hrel
        have HLE := Lib.hid hle; clear hle
        by_cases hlt2 : i < 17
        · obtain ⟨i0, hi0, hz0, hz1, hz2⟩ := info_parts info_int
          have hix := run_index_agg 56 3 17 .i64 i0 cs .i64 i _ Tryz.underlying56 Tryz.underlying3 hi0 hz1 hlt2 (HCJ.out i hlt2) wr
          clear hi0 hz0 hz1 hz2
          by_cases h1 : 1 < f i
          · have hj := joinF_dup l n hn1 hn16 HVA.out (dup_of_cnt l i (by rw [← HFC.out i hlt2]; exact h1))
            have HJ := Lib.hid hj; clear hj
            go_wp2
            go_ret2
            rw [HJ.out]
            exact ⟨rfl, HB.out⟩
          · have h1' : f i ≤ 1 := by omega
            go_wp2
            go_round
            case rel =>
              refine ⟨i + 1, by omega, by go_num, fun j hj => ?_⟩
              by_cases hji : j = i
              · subst hji; exact h1'
              · exact HLE.out j (by omega)
            case measure => simp [intOf]; omega
        · have hnd := nodup_of_cnt l HVA.out (fun j hj => by rw [← HFC.out j hj]; exact HLE.out j (by omega))
          have HND := Lib.hid hnd; clear hnd
          by_cases hfew : l.length < n
          · have hj := joinF_few l n hn1 hn16 HVA.out HND.out (by omega)
            have HJ := Lib.hid hj; clear hj
            go_wp2
            go_ret2
            rw [HJ.out]
            exact ⟨rfl, HB.out⟩
          · have hnl : n ≤ l.length := by omega
            obtain ⟨b, off, rfl, hcells⟩ := HA.out.2 (by omega)
            have HCE := Lib.hid hcells; clear hcells
            go_wp2_with fail
            obtain ⟨w3, rfl⟩ : ∃ w3 : World, w3 = wr := ⟨_, rfl⟩
            obtain ⟨i2, hi2, hy0, hy1, hy2⟩ := info_parts info_point
            have HI2 := Lib.hid (And.intro hi2 (And.intro hy0 (And.intro hy1 hy2)))
            clear hi2 hy0 hy1 hy2
            go_loopw [11, 56] (fun u11 u56 wr => ∃ q : Nat, q ≤ n ∧ u56 = .int .i64 q ∧ Below w3.heap.size w3 wr ∧ wr.ownsRow w3.heap.size 60 2 u11 q (flat2 (l.take q))) (fun _ u56 _ => n - (intOf u56).toNat)
            case atStart => exact ⟨0, Nat.zero_le _, rfl, Below.refl _ _, World.ownsRow_nil _ _ _ _⟩
            case round =>
              obtain ⟨q, hq, rfl, hB3, hO3⟩ := hrel
              have HB3 := Lib.hid hB3; clear hB3
              have HO3 := Lib.hid hO3; clear hO3
              by_cases hqn : q < n
              · obtain ⟨s, hs⟩ := get_some l q (by omega)
                obtain ⟨h1, h2⟩ := flat2_at l q s hs
                have hc1 := kept_cell HB3.out (kept_cell HB.out (HCE.out _ _ h1))
                have hc2 := kept_cell HB3.out (kept_cell HB.out (HCE.out _ _ h2))
                rw [← Nat.add_assoc] at hc2
                have HS := Lib.hid hs; clear hs h1 h2
                go_wp2_with (at_builtin; refine wpList_app _ rfl (.tmp 60) (.tmp 66) 59 59 rfl w3.heap.size 60 60 i2 _ 2 16 Tryz.underlying59 Tryz.underlying59 HI2.out.1 HI2.out.2.1 HI2.out.2.2.1 HI2.out.2.2.2 rfl (by omega) _ q _ rfl ((HO3.out.alloc _).alloc _) _ 1 1 [.int .i64 s.1, .int .i64 s.2] rfl (Rd_new (wr.alloc _) #[.int .i64 s.1, .int .i64 s.2] _ 2 1 _ rfl (by simp)) (by simp [Value.oneCell']) (by simp only [maxLen]; omega) (by omega) (by have := HB3.out.size; simp; omega) ?_)
                intro v1 w4 hown4 hg4
                have hB4 : Below w3.heap.size w3 w4 := (below_alloc (below_alloc HB3.out _) _).grown hg4 (by have := HB3.out.size; simp; omega) (fun j hj => (HO3.out.lt j hj).1)
                have e4 : flat2 (l.take q) ++ [.int .i64 s.1, .int .i64 s.2] = flat2 (l.take (q + 1)) := by rw [take_snoc l q s HS.out, flat2_append]; rfl
                rw [e4] at hown4
                have HOWN4 := Lib.hid hown4
                have HB4 := Lib.hid hB4
                clear hown4 hB4 hg4 e4
                go_wp2
                go_roundw
                case rel => exact ⟨q + 1, by omega, by go_num, HB4.out, HOWN4.out⟩
                case measure => simp [intOf]; omega
              · obtain rfl : q = n := by omega
                obtain ⟨A3, c3, rfl, hc3, hm3, hrd3⟩ := Rd.of_own HO3.out
                have eql : (l.take q).length = q := List.length_take_of_le hnl
                have hP3 : Prs wr A3 (l.take q) := by
                  unfold Prs; rw [eql]; exact hrd3
                have helem : ∀ p, p ∈ l → elemB p.1 = true ∧ elemB p.2 = true := fun p hp => by
                  have := (validB_iff p).1 (List.all_eq_true.1 HVA.out p hp)
                  exact ⟨by rw [elemB_iff]; omega, this.2.2⟩
                have hcall : ∀ (x : Int), elemB x = true → ∀ W, Below wr.heap.size wr W → Calls Tryz.prog 31 #[.slice A3 q c3, .int .i64 x] W fun e w' =>
                    e = .returned (.tuple #[.int .i64 (nv x (l.take q) (q - 1) 0), .int .i64 0]) ∧ Below W.heap.size W w' := by
                  intro x hx W hW
                  have h := pointsat_any A3 c3 (l.take q) x W (hP3.below hW) (by rw [eql]; omega) (by rw [eql]; omega) (by rw [eql]; exact hc3) hx (fun p hp => helem p (List.mem_of_mem_take hp))
                    ((HND.out).sublist ((List.take_sublist q l).map _))
                  rw [eql] at h
                  exact h
                have HCALL := Lib.hid hcall
                have HEL := Lib.hid helem
                have HB0 := Lib.hid (HB.out.trans (HB3.out.mono HB.out.size))
                clear hP3 hrd3 hcall helem eql
                obtain ⟨w5, rfl⟩ : ∃ w5 : World, w5 = wr := ⟨_, rfl⟩
                by_cases hcq : c = q
                · obtain rfl := hcq
                  have hj := joinF_ok l c (by omega) (by omega) HVA.out HND.out hnl (by intro s hs; rw [List.drop_eq_nil_of_le hcap] at hs; cases hs)
                  have HJ := Lib.hid hj; clear hj
                  go_wp2_with fail
                  refine wp_loop_rounds 1 ?_
                  rw [rounds_succ]
                  have hz : ¬ ((0 : Int) < (l.length : Int) - (c : Int)) := by omega
                  go_wp2_with fail
                  refine (HCALL.out 0 rfl _ (Below.refl _ _)).mono ?_
                  rintro e w6 ⟨rfl, hb6⟩
                  have HB6 := Lib.hid hb6; clear hb6
                  go_wp2
                  go_ret2
                  rw [HJ.out]
                  exact ⟨rfl, below_trans HB0.out HB6.out⟩
                · go_wp2_with fail
                  go_loopw [17, 18, 75] (fun _ _ u75 wr => ∃ r : Nat, r ≤ l.length - q ∧ u75 = .int .i64 r ∧ Below w5.heap.size w5 wr ∧ ∀ s, s ∈ (l.drop q).take r → nv s.1 (l.take q) (q - 1) 0 = s.2) (fun _ _ u75 _ => l.length - (intOf u75).toNat)
                  case atStart => exact ⟨0, Nat.zero_le _, rfl, Below.refl _ _, by simp⟩
                  case round =>
                    obtain ⟨r, hr, rfl, hB5, hok⟩ := hrel
                    have HB5 := Lib.hid hB5; clear hB5
                    have HOK := Lib.hid hok; clear hok
                    by_cases hrl : r < l.length - q
                    · obtain ⟨s, hs⟩ := get_some l (q + r) (by omega)
                      have hsd : (l.drop q)[r]? = some s := by rw [List.getElem?_drop]; exact hs
                      obtain ⟨h1, h2⟩ := flat2_at l (q + r) s hs
                      have hc1 := kept_cell HB5.out (kept_cell HB0.out (kept_cell (Below.refl _ _) (HCE.out _ _ h1)))
                      have hc2 := kept_cell HB5.out (kept_cell HB0.out (kept_cell (Below.refl _ _) (HCE.out _ _ h2)))
                      rw [show off + (q + r) * 2 = off + q * 2 + r * 2 by omega] at hc1
                      rw [show off + ((q + r) * 2 + 1) = off + q * 2 + r * 2 + 1 by omega] at hc2
                      have hex := (HEL.out s (List.mem_of_getElem? hs)).1
                      have hca := Lib.hid (HCALL.out s.1 hex _ (below_alloc HB5.out (.cells #[.int .i64 s.1, .int .i64 s.2] 25)))
                      have HSD := Lib.hid hsd
                      clear hs hsd h1 h2 hex
                      go_wp2_with fail
                      refine hca.out.mono ?_
                      rintro e w6 ⟨rfl, hb6⟩
                      have hsz : wr.heap.size < w6.heap.size := by have := hb6.size; simp at this; omega
                      have hcy : w6.cell? ⟨wr.heap.size, 1, none⟩ = some (.int .i64 s.2) := below_cell hb6 (by simp) (by rw [World.cell?_alloc_at _ _ _ _ rfl]; rfl)
                      have hb7 := below_trans (below_alloc HB5.out _) hb6
                      have HB7 := Lib.hid hb7
                      clear hb6 hb7
                      by_cases hy : nv s.1 (l.take q) (q - 1) 0 = s.2
                      · have HY := Lib.hid hy
                        have hy' : (nv s.1 (l.take q) (q - 1) 0 == s.2) = true := by simpa using hy
                        have hy'' : (nv s.1 (l.take q) (q - 1) 0 != s.2) = false := by simpa using hy
                        clear hy
                        go_wp2
                        go_roundw
                        case rel =>
                          refine ⟨r + 1, by omega, by go_num, HB7.out, fun t ht => ?_⟩
                          rw [take_snoc _ r s HSD.out] at ht
                          rcases List.mem_append.1 ht with ht | ht
                          · exact HOK.out t ht
                          · rw [List.mem_singleton.1 ht]; exact HY.out
                        case measure => simp [intOf]; omega
                      · have hj := joinF_wrong l q (by omega) (by omega) HVA.out HND.out hnl r s HSD.out hy
                        have HJ := Lib.hid hj; clear hj
                        have hy' : (nv s.1 (l.take q) (q - 1) 0 == s.2) = false := by simpa using hy
                        have hy'' : (nv s.1 (l.take q) (q - 1) 0 != s.2) = true := by simpa using hy
                        clear hy
                        go_wp2
                        go_ret2
                        rw [HJ.out]
                        exact ⟨rfl, below_trans HB0.out HB7.out⟩
                    · have hall : ∀ s, s ∈ l.drop q → nv s.1 (l.take q) (q - 1) 0 = s.2 := by
                        have := HOK.out
                        rwa [List.take_of_length_le (by rw [List.length_drop]; omega)] at this
                      have hj := joinF_ok l q (by omega) (by omega) HVA.out HND.out hnl hall
                      have HJ := Lib.hid hj; clear hj hall
                      go_wp2_with fail
                      refine (HCALL.out 0 rfl _ HB5.out).mono ?_
                      rintro e w6 ⟨rfl, hb6⟩
                      have HB6 := Lib.hid hb6; clear hb6
                      go_wp2
                      go_ret2
                      rw [HJ.out]
                      exact ⟨rfl, below_trans HB0.out (below_trans HB5.out HB6.out)⟩

end Go.Proofs.YtbefcipeojahfaaGreatDoor
