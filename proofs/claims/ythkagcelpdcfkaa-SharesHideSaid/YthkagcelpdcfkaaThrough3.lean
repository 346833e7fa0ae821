/- The walk of through, part two. -/
import Derived.Test.YthkagcelpdcfkaaThrough2
import Derived.Deep.RegionHeld3
import Derived.Deep.RegionWith
import Derived.BigRegion
namespace Go.Proofs.Ythkagcelpdcfkaa
open Go.RowKit

theorem range_getD (o : List Int) (n : Nat) (h : o.length = n) : (List.range n).map (fun j => o[j]?.getD 0) = o := by
  apply List.ext_getElem?
  intro j
  by_cases hj : j < n
  · rw [List.getElem?_map, List.getElem?_range hj]
    obtain ⟨x, hx⟩ := get_some o j (by omega)
    simp [hx]
  · rw [List.getElem?_eq_none (by simp; omega), List.getElem?_eq_none (by omega)]

theorem mi_phi (k mi : Int) (h : -k % 2147483647 = mi) : phi mi = - phi k := by
  rw [← h, phi_emod]
  have : phi (-k) + phi k = 0 := by rw [← phi_add, Int.add_left_neg]; rfl
  grind
theorem bv_phi (x k mi : Int) (h : -k % 2147483647 = mi) (h0 : 0 < (x + mi) % 2147483647) : phi (invp ((x + mi) % 2147483647)) * (phi x - phi k) = 1 := by
  have e : phi ((x + mi) % 2147483647) = phi x - phi k := by rw [phi_emod, phi_add, mi_phi k mi h]; grind
  rw [← e]
  exact phi_inv _ h0 (by omega)

theorem by_pos (x k : Int) (x0 : 0 ≤ x) (x1 : x < 2147483647) (k0 : 0 ≤ k) (k1 : k < 2147483647) (h : x ≠ k) : 0 < (x + (-k) % 2147483647) % 2147483647 := by omega

set_option maxRecDepth 100000 in
set_option maxHeartbeats 4000000 in
theorem through_any (A : Option Addr) (cap : Nat) (ps : List (Int × Int)) (w : World) (hA : Prs w A ps) (hg : Good ps) (h16 : ps.length ≤ 16) :
    Calls Try.prog 14 #[.slice A ps.length cap] w fun e w' =>
      ∃ A' C, e = .returned (.slice A' ps.length ps.length) ∧ SumT ps ps.length C ∧ Ints w' A' C ∧ Below w.heap.size w w' := by
  have HA := Lib.hid hA; clear hA
  have HG := Lib.hid hg; clear hg
  obtain ⟨i0, hi0, hz0, hz1, hz2⟩ := info_parts info_int
  have HI := Lib.hid (And.intro hi0 (And.intro hz0 (And.intro hz1 hz2)))
  clear hi0 hz0 hz1 hz2
  go_enter Try.func14, Try.ntmps14
  go_wp2_with (at_make; refine wpList_make_full _ rfl (.tmp 18) (.tmp 18) 22 rfl w.heap.size 3 i0 _ 1 Try.underlying22 HI.out.1 HI.out.2.1 HI.out.2.2.1 _ _ _ _ ps.length rfl rfl rfl rfl (by rw [HI.out.2.2.2]; omega) (by simp only [maxLen]; omega) (Nat.le_refl _) ?_)
  intro w1 hown1 hg1
  have hA1 := Arr.of_made hown1
  have hB1 := (Below.refl w.heap.size w).grown hg1 (Nat.le_refl _) (by simp)
  have HA1 := Lib.hid hA1
  have HB1 := Lib.hid hB1
  clear hown1 hg1 hA1 hB1
  go_wp2_with fail
  go_loopw [4] (fun u4 wr => ∃ (i : Nat) (O : List Int), i ≤ ps.length ∧ u4 = .int .i64 i ∧ Below w.heap.size w wr ∧ Arr wr w.heap.size 3 ps.length (fun j => O[j]?.getD 0) ∧ SumT ps i O) (fun u4 _ => ps.length - (intOf u4).toNat)
  case atStart => exact ⟨0, _, Nat.zero_le _, rfl, HB1.out, HA1.out.congr (fun j hj => by simp [List.getElem?_replicate, hj]), SumT.start ps⟩
  case round =>
    obtain ⟨i, O, hi, rfl, hB, hAr, hS⟩ := hrel
    have HB := Lib.hid hB; clear hB
    have HAR := Lib.hid hAr; clear hAr
    have HS := Lib.hid hS; clear hS
    by_cases hlt : i < ps.length
    · obtain ⟨p, hp⟩ := get_some ps i hlt
      obtain ⟨b, off, rfl, hc1, hc2⟩ := (HA.out.below HB.out).at_ hp
      have HP := Lib.hid hp; clear hp
      obtain ⟨hpx, hpy⟩ := HG.out.elems p (List.mem_of_getElem? HP.out)
      obtain ⟨px0, px1⟩ := (elemB_iff _).1 hpx
      clear hpx hpy
      go_wp2_with fail
      have hT0 := Term.start ps HG.out i p HP.out
      have hI0 := Ints_new wr #[.int .i64 p.2] 3 _ [p.2] rfl rfl
      have HT0 := Lib.hid hT0
      have HI0 := Lib.hid hI0
      clear hT0 hI0
      obtain ⟨wo, rfl⟩ : ∃ wo : World, wo = wr := ⟨_, rfl⟩
      go_loopw [5, 6] (fun u5 u6 wr => ∃ (k : Nat) (t : List Int) (bt ct : Nat), k ≤ ps.length ∧ u6 = .int .i64 k ∧ u5 = .slice (some ⟨bt, 0, none⟩) t.length ct ∧ Below wo.heap.size wo wr ∧ Ints wr (some ⟨bt, 0, none⟩) t ∧ Term ps i k t ∧ wo.heap.size ≤ bt) (fun _ u6 _ => ps.length - (intOf u6).toNat)
      case atStart => exact ⟨0, [p.2], _, 1, Nat.zero_le _, rfl, rfl, below_alloc (Below.refl _ _) _, HI0.out, HT0.out, Nat.le_refl _⟩
      case round =>
        obtain ⟨k, t, bt, ct, hk, rfl, rfl, hB2, hI2, hT2, hbt⟩ := hrel
        have HB2 := Lib.hid hB2; clear hB2
        have HI2 := Lib.hid hI2; clear hI2
        have htl : t.length ≤ 1 + k := by have := hT2.len; split at this <;> omega
        have HT2 := Lib.hid hT2; clear hT2
        by_cases hkl : k < ps.length
        · by_cases hki : k = i
          · have e1 : ((k : Int) == (i : Int)) = true := by simp [hki]
            have hts := HT2.out
            rw [hki] at hts
            have hts := hts.skip
            have hts : Term ps i (k + 1) t := by rw [hki]; exact hts
            have HTS := Lib.hid hts
            clear hts hki
            go_wp2
            go_roundw
            case rel => exact ⟨k + 1, t, bt, ct, by omega, by go_num, rfl, HB2.out, HI2.out, HTS.out, hbt⟩
            case measure => simp [intOf]; omega
          · have e1 : ((k : Int) == (i : Int)) = false := by simp; omega
            obtain ⟨q, hq⟩ := get_some ps k hkl
            obtain ⟨q0, q1⟩ := (elemB_iff _).1 (HG.out.elems q (List.mem_of_getElem? hq)).1
            have hne : p.1 ≠ q.1 := by
              rcases Nat.lt_trichotomy k i with h | h | h
              · exact (nodup_ne HG.out.nodup k i _ _ (by simp [hq]) (by simp [HP.out]) h).symm
              · exact absurd h hki
              · exact nodup_ne HG.out.nodup i k _ _ (by simp [HP.out]) (by simp [hq]) h
            have hcells := HA.out.below (HB.out.trans (HB2.out.mono HB.out.size))
            have hbp := by_pos p.1 q.1 px0 px1 q0 q1 hne
            have HQ := Lib.hid hq
            have HKI := Lib.hid hki
            have HCELLS := Lib.hid hcells
            clear hq hki hne hcells
            obtain ⟨bk, ok, ek, hd1, hd2⟩ := HCELLS.out.at_ HQ.out
            injection ek with ek
            injection ek with ek1 ek2
            subst ek1 ek2
            obtain ⟨bi, oi, ei, hc1', hc2'⟩ := HCELLS.out.at_ HP.out
            injection ei with ei
            injection ei with ei1 ei2
            subst ei1 ei2
            go_wp2_with fail
            refine (lelement_any _ _).mono ?_
            rintro e w' ⟨rfl, rfl⟩
            go_wp2_with fail
            obtain ⟨mi, hmi⟩ : ∃ mi, -q.1 % 2147483647 = mi := ⟨_, rfl⟩
            have m0 : 0 ≤ mi := by omega
            have m1 : mi < 2147483647 := by omega
            rw [hmi] at hbp ⊢
            have hvv := bv_phi p.1 q.1 mi hmi hbp
            have hphm := mi_phi q.1 mi hmi
            have HVV := Lib.hid hvv
            have HPM := Lib.hid hphm
            clear hvv hphm hmi
            have hadd := add_any p.1 mi wr px0 px1 m0 m1
            with_reducible refine hadd.mono ?_
            rintro e w5 ⟨rfl, hb5⟩
            have HB5 := Lib.hid (below_trans HB2.out hb5)
            have HI5 := Lib.hid (HI2.out.below hb5)
            have d1 : (p.1 + mi) % 2147483647 < 2147483647 := by omega
            obtain ⟨v0, v1, -⟩ := invp_spec _ hbp d1
            clear hb5 hadd
            have hinv := inverse_ok ((p.1 + mi) % 2147483647) w5 hbp d1
            have HINV := Lib.hid hinv; clear hinv
            go_wp2_with fail
            with_reducible refine HINV.out.mono ?_
            rintro e w' ⟨rfl, rfl⟩
            generalize invp ((p.1 + mi) % 2147483647) = bv at *
            clear hbp d1 HINV
            go_wp2_with (at_make; refine wpList_make_full _ rfl (.tmp 65) (.tmp 65) 22 rfl w5.heap.size 3 i0 _ 1 Try.underlying22 HI.out.1 HI.out.2.1 HI.out.2.2.1 _ _ _ _ (t.length + 1) rfl rfl rfl rfl (by rw [HI.out.2.2.2]; omega) (by simp only [maxLen]; omega) (Nat.le_refl _) ?_)
            intro w6 hown6 hg6
            have hA6 := Arr.of_made hown6
            have hB6 : Below w5.heap.size w5 w6 := (Below.refl _ _).grown hg6 (Nat.le_refl _) (by simp)
            have HA6 := Lib.hid (hA6.congr (g := nextF t bv mi 0) (fun j _ => by unfold nextF; rw [if_neg (by omega)]; split <;> simp [*]))
            have HB6 := Lib.hid (below_trans HB5.out hB6)
            have H56 := Lib.hid hB6
            have HI6 := Lib.hid (HI5.out.below hB6)
            have HTE := Lib.hid HT2.out.elems
            have hsz6 : w5.heap.size < w6.heap.size := hA6.lt
            have hsz5 : wo.heap.size ≤ w5.heap.size := HB5.out.size
            clear hown6 hg6 hA6 hB6
            go_wp2_with fail
            go_loopw [11] (fun u11 wr => ∃ m : Nat, m ≤ t.length ∧ u11 = .int .i64 m ∧ Below w5.heap.size w5 wr ∧ Arr wr w5.heap.size 3 (t.length + 1) (nextF t bv mi m)) (fun u11 _ => t.length - (intOf u11).toNat)
            case atStart => exact ⟨0, Nat.zero_le _, rfl, H56.out, HA6.out⟩
            case round =>
              obtain ⟨m, hm, rfl, hB7, hA7⟩ := hrel
              have HB7 := Lib.hid hB7
              have HA7 := Lib.hid hA7
              clear hB7 hA7
              by_cases hml : m < t.length
              · obtain ⟨x, hx⟩ := get_some t m hml
                obtain ⟨x0, x1⟩ := (elemB_iff _).1 (List.all_eq_true.1 HTE.out x (List.mem_of_getElem? hx))
                obtain ⟨bt', ot, et, hcx⟩ := (HI5.out.below HB7.out).at_ hx
                injection et with et
                injection et with et1 et2
                subst et1 et2
                rw [Nat.zero_add] at hcx
                have HX := Lib.hid hx; clear hx
                have hmul := mul_any x bv wr x0 x1 v0 v1
                have HMUL := Lib.hid hmul; clear hmul
                go_wp2_with fail
                with_reducible refine HMUL.out.mono ?_
                rintro e w8 ⟨rfl, hb8⟩
                obtain ⟨cv, hcv⟩ : ∃ cv, x * bv % 2147483647 = cv := ⟨_, rfl⟩
                rw [hcv]
                have c0 : 0 ≤ cv := by omega
                have c1 : cv < 2147483647 := by omega
                have hmul2 := mul_any cv mi w8 c0 c1 m0 m1
                have HMUL2 := Lib.hid hmul2
                have HCV := Lib.hid hcv
                have HB8 := Lib.hid hb8
                clear hmul2 hcv hb8
                go_wp2_with fail
                with_reducible refine HMUL2.out.mono ?_
                rintro e w9 ⟨rfl, hb9⟩
                obtain ⟨lv, hlv⟩ : ∃ lv, cv * mi % 2147483647 = lv := ⟨_, rfl⟩
                rw [hlv]
                have l0 : 0 ≤ lv := by omega
                have l1 : lv < 2147483647 := by omega
                have hA9 := HA7.out.below (below_trans HB8.out hb9)
                have hcell := hA9.cell m (by omega)
                obtain ⟨f0, f1⟩ := nextF_range t bv mi m m
                have HLV := Lib.hid hlv
                have HB9 := Lib.hid (below_trans HB8.out hb9)
                have HA9 := Lib.hid hA9
                clear hlv hb9 hA9
                have hadd := add_any (nextF t bv mi m m) lv w9 f0 f1 l0 l1
                have HADD := Lib.hid hadd; clear hadd
                go_wp2_with fail
                with_reducible refine HADD.out.mono ?_
                rintro e w10 ⟨rfl, hb10⟩
                obtain ⟨av, hav⟩ : ∃ av, (nextF t bv mi m m + lv) % 2147483647 = av := ⟨_, rfl⟩
                rw [hav]
                have a0 : 0 ≤ av := by omega
                have a1 : av < 2147483647 := by omega
                have hA10 := HA9.out.below hb10
                have hcell := hA10.cell m (by omega)
                have hfro := hA10.frozen m
                have hset := hA10.set m av
                have hB10 := (HB7.out.trans ((below_trans HB9.out hb10).mono HB7.out.size)).setCell (p := ⟨w5.heap.size, m, none⟩) (Nat.le_refl _) (.int .i64 av)
                have HCELL2 := Lib.hid (hA10.cell (m + 1) (by omega))
                have HAV := Lib.hid hav
                have HSET := Lib.hid hset
                have HB10 := Lib.hid hB10
                clear hav hb10 hA10 hset hB10
                obtain ⟨g0, g1⟩ := nextF_range t bv mi m (m + 1)
                have hadd2 := add_any (nextF t bv mi m (m + 1)) cv (w10.setCell ⟨w5.heap.size, m, none⟩ (.int .i64 av)) g0 g1 c0 c1
                have HADD2 := Lib.hid hadd2
                have hwsz : w5.heap.size < w10.heap.size := by have := HSET.out.lt; simpa [World.setCell] using this
                clear hadd2 HADD
                have hcell2 := HCELL2.out
                go_wp2_with fail
                with_reducible refine HADD2.out.mono ?_
                rintro e w11 ⟨rfl, hb11⟩
                obtain ⟨bv2, hbv2⟩ : ∃ z, (nextF t bv mi m (m + 1) + cv) % 2147483647 = z := ⟨_, rfl⟩
                rw [hbv2]
                have hA11 := HSET.out.below hb11
                have hcell3 := hA11.cell (m + 1) (by omega)
                have hfro3 := hA11.frozen (m + 1)
                have hset2 := hA11.set (m + 1) bv2
                have hB11 := (HB10.out.trans (hb11.mono (by have := HB10.out.size; exact this))).setCell (p := ⟨w5.heap.size, m + 1, none⟩) (Nat.le_refl _) (.int .i64 bv2)
                have hfin : Arr (w11.setCell ⟨w5.heap.size, m + 1, none⟩ (.int .i64 bv2)) w5.heap.size 3 (t.length + 1) (nextF t bv mi (m + 1)) := by
                  refine hset2.congr fun j _ => ?_
                  have hstep := nextF_step t bv mi m x HX.out j
                  rw [← hstep, ← hbv2, ← HAV.out, ← HLV.out, ← HCV.out]
                  by_cases h1 : j = m + 1
                  · subst h1; simp [addm]
                  · simp [h1, addm]
                have HFIN := Lib.hid hfin
                have HB11 := Lib.hid hB11
                clear hbv2 hb11 hA11 hset2 hB11 hfin hcell hcell2 hfro
                go_wp2
                go_roundw
                case rel => exact ⟨m + 1, by omega, by go_num, HB11.out, HFIN.out⟩
                case measure => simp [intOf]; omega
              · have hmt : m = t.length := by omega
                have hI8 := HA7.out.ints
                rw [hmt, nextF_done] at hI8
                have hlen := nextL_length t bv mi
                have hT8 := HT2.out.next HKI.out q p HQ.out HP.out bv mi HPM.out HVV.out
                have HI8 := Lib.hid hI8
                have HT8 := Lib.hid hT8
                have HLEN := Lib.hid hlen
                clear hmt hI8 hT8 hlen
                go_wp2
                go_roundw
                case rel =>
                  exact ⟨k + 1, nextL t bv mi, w5.heap.size, t.length + 1, by omega, by go_num, by rw [HLEN.out], (HB5.out.trans (HB7.out.mono HB5.out.size)), HI8.out, HT8.out, hsz5⟩
                case measure => simp [intOf]; omega
        · have hkn : k = ps.length := by omega
          have hT9 := HT2.out
          rw [hkn] at hT9
          have htn : t.length = ps.length := by have := hT9.len; rw [if_pos hlt] at this; omega
          have hol : O.length = t.length := by rw [htn]; exact HS.out.len
          have hA9 := HAR.out.below HB2.out
          have hbn : w.heap.size < bt := by have := HAR.out.lt; omega
          have HT9 := Lib.hid hT9
          have HTN := Lib.hid htn
          have HOL := Lib.hid hol
          have HA9 := Lib.hid (hA9.congr (g := sumF O t 0) (fun j _ => by unfold sumF; rw [if_neg (by omega)]))
          have HI9 := Lib.hid HI2.out
          have hB9 := HB.out.trans (HB2.out.mono HB.out.size)
          have HB9 := Lib.hid hB9
          have htl9 : t.length ≤ ps.length := by omega
          have htl9' : ps.length ≤ t.length := by omega
          clear hkn hT9 htn hol hA9 hB9
          go_wp2_with fail
          go_loopw [16] (fun u16 wr => ∃ j : Nat, j ≤ ps.length ∧ u16 = .int .i64 j ∧ Below w.heap.size w wr ∧ Ints wr (some ⟨bt, 0, none⟩) t ∧ Arr wr w.heap.size 3 ps.length (sumF O t j)) (fun u16 _ => ps.length - (intOf u16).toNat)
          case atStart => exact ⟨0, Nat.zero_le _, rfl, HB9.out, HI9.out, HA9.out⟩
          case round =>
            obtain ⟨j, hj, rfl, hB10, hI10, hA10⟩ := hrel
            have HB10 := Lib.hid hB10
            have HI10 := Lib.hid hI10
            have HA10 := Lib.hid hA10
            clear hB10 hI10 hA10
            by_cases hjl : j < ps.length
            · obtain ⟨x, hx⟩ := get_some t j (by omega)
              obtain ⟨x0, x1⟩ := (elemB_iff _).1 (List.all_eq_true.1 HT9.out.elems x (List.mem_of_getElem? hx))
              obtain ⟨bt', ot, et, hcx⟩ := HI10.out.at_ hx
              injection et with et
              injection et with et1 et2
              subst et1 et2
              rw [Nat.zero_add] at hcx
              obtain ⟨s0, s1⟩ := sumF_range O t HS.out.elems j j
              have hco := HA10.out.cell j hjl
              have hfo := HA10.out.frozen j
              have hstep := sumF_step O t j x hx HOL.out
              have HSTEP := Lib.hid hstep
              clear hx hstep
              have hjt : (j : Int) < (t.length : Int) := by omega
              generalize hsf : sumF O t j j = sv at *
              have HSF := Lib.hid hsf; clear hsf
              have hwlt := lt_of_cell hco
              go_wp2_with fail
              go_region_with (go_at_call 20; refine (add_any sv x _ s0 s1 x0 x1).mono ?_; rintro e w12 ⟨rfl, hb12⟩; have q1 := kept_cell hb12 hco; have q2 := kept_cell hb12 hcx; have q3 := (hb12.frozen (p := ⟨w.heap.size, j, none⟩) hwlt).trans hfo)
              all_goals
                have hd12 : Below wr.heap.size wr w12 := ((Below.refl wr.heap.size wr).drew).trans hb12
                have hA12 := (HA10.out.below hd12).set j ((sv + x) % 2147483647)
                have hfin : Arr (w12.setCell ⟨w.heap.size, j, none⟩ (.int .i64 ((sv + x) % 2147483647))) w.heap.size 3 ps.length (sumF O t (j + 1)) := by
                  refine hA12.congr fun i' _ => ?_
                  rw [← HSTEP.out i']; rfl
                have hB12 := (HB10.out.trans (hd12.mono HB10.out.size)).setCell (p := ⟨w.heap.size, j, none⟩) (Nat.le_refl _) (.int .i64 ((sv + x) % 2147483647))
                have hI12 : Ints (w12.setCell ⟨w.heap.size, j, none⟩ (.int .i64 ((sv + x) % 2147483647))) (some ⟨bt, 0, none⟩) t := by
                  have h1 := HI10.out.below hd12
                  refine ⟨h1.1, fun h0 => ?_⟩
                  obtain ⟨b', o', e', hc'⟩ := h1.2 h0
                  injection e' with e'
                  injection e' with e1 e2
                  subst e1 e2
                  refine ⟨_, _, rfl, fun j' u hu => ?_⟩
                  rw [World.cell?_setCell_other _ _ _ _ (by intro h; injection h with h1 h2; omega)]
                  exact hc' j' u hu
                have HFIN := Lib.hid hfin
                have HB12 := Lib.hid hB12
                have HI12 := Lib.hid hI12
                clear hd12 hA12 hfin hB12 hI12 hb12 q1 q2 q3 hco hcx hfo
                go_wp2
                go_roundw
                case rel => exact ⟨j + 1, by omega, by go_num, HB12.out, HI12.out, HFIN.out⟩
                case measure => simp [intOf]; omega
            · have hjn : j = ps.length := by omega
              have hsum := HS.out.next HT9.out hlt
              have hA13 := HA10.out.congr (g := fun j => (sumL O t)[j]?.getD 0) (fun j' hj' => by
                have := sumF_done O t HOL.out j' (by rw [HS.out.len]; exact hj')
                rw [HS.out.len, ← hjn] at this; exact this)
              have HSUM := Lib.hid hsum
              have HA13 := Lib.hid hA13
              clear hjn hsum hA13
              go_wp2
              go_roundw
              case rel => exact ⟨i + 1, sumL O t, by omega, by go_num, HB10.out, HA13.out, HSUM.out⟩
              case measure => simp [intOf]; omega
    · have hin : i = ps.length := by omega
      have hI20 := HAR.out.ints
      have hS20 := HS.out
      rw [range_getD O ps.length HS.out.len] at hI20
      rw [hin] at hS20
      have HI20 := Lib.hid hI20
      have HS20 := Lib.hid hS20
      clear hin hI20 hS20
      go_wp2
      go_ret
      exact ⟨_, O, rfl, HS20.out, HI20.out, HB.out⟩

end Go.Proofs.Ythkagcelpdcfkaa
