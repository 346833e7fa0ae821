/- The law DiskStable: the walk. -/
import Derived.Test.YtomcjohdenjljaaLB255
namespace Go.Proofs.Ytomcjohdenjljaa
open Go.RowKit

set_option maxRecDepth 100000 in
set_option maxHeartbeats 64000000 in
theorem stable_walk (r : UInt8) (A : Option Addr) (c : Nat) (l : List AC) (B : Option Addr) (c2 : Nat) (m : List AC) (wri byt0 : Int) (w : World) (hl : Acs w A l) (hll : l.length ≤ 9223372036854775807) (hfitl : fits l) (hm : Acs w B m) (hlm : m.length ≤ 9223372036854775807) (hfitm : fits m) :
    Calls Try.prog 4 #[.int .u8 r.toNat, .slice A l.length c, .slice B m.length c2, .int .i64 wri, .int .i64 byt0] w fun e w' => e = .returned (.bool true) ∧ Below w.heap.size w w' := by
  obtain ⟨W, rfl⟩ : ∃ W, W = w := ⟨_, rfl⟩
  have HAl : Hid (∀ w', Below W.heap.size W w' → Acs w' A l) := fun w' hb => hl.below hb
  clear hl
  obtain ⟨vl, hvl⟩ : ∃ v, okB l = v := ⟨_, rfl⟩
  have HVl := Lib.hid hvl
  clear hvl
  have HAm : Hid (∀ w', Below W.heap.size W w' → Acs w' B m) := fun w' hb => hm.below hb
  clear hm
  obtain ⟨vm, hvm⟩ : ∃ v, okB m = v := ⟨_, rfl⟩
  have HVm := Lib.hid hvm
  clear hvm
  obtain ⟨n, hn⟩ : ∃ n, nOf r = n := ⟨_, rfl⟩
  have hn1 := nOf_lo r
  have hn2 := nOf_hi r
  have hsize := size_nOf r
  rw [hn] at hn1 hn2 hsize
  have HSIZE := Lib.hid hsize
  clear hn hsize
  obtain ⟨rv, hrv⟩ : ∃ rv, r.toNat = rv := ⟨_, rfl⟩
  rw [hrv] at HSIZE ⊢
  clear hrv
  go_enter Try.func4, Try.ntmps4
  go_wp2_with fail
  refine (head_any _).mono ?_
  rintro e w1 ⟨rfl, hb1⟩
  have HB1 := Lib.hid hb1
  clear hb1
  go_wp2_with fail
  have hokl := ok_any A c l w1 (HAl.out w1 HB1.out) hll
  rw [HVl.out] at hokl
  refine hokl.mono ?_
  rintro e _ ⟨rfl, rfl⟩
  clear hokl
  cases vl with
  | false =>
    go_wp2
    go_ret
    exact ⟨rfl, HB1.out⟩
  | true =>
  go_wp2_with fail
  have hokm := ok_any B c2 m w1 (HAm.out w1 HB1.out) hlm
  rw [HVm.out] at hokm
  refine hokm.mono ?_
  rintro e _ ⟨rfl, rfl⟩
  clear hokm
  cases vm with
  | false =>
    go_wp2
    go_ret
    exact ⟨rfl, HB1.out⟩
  | true =>
  go_wp2_with fail
  refine (HSIZE.out _).mono ?_
  rintro e _ ⟨rfl, rfl⟩
  go_wp2_with fail
  refine (new_own W n hn1 (by omega) w1 HB1.out).mono ?_
  rintro e w3 ⟨d, rfl, ho⟩
  have HO := Lib.hid ho
  clear ho
  have HDO := Lib.hid (fun k a wr (hk : l[k]? = some a) (ho : Own W wr d (acts (DS.new n) (l.take k)) []) => do_step HVl.out hfitl n k a hk ho.acc)
  go_wp2_with fail
  go_loopw [14] (fun u wr => ∃ k : Nat, k ≤ l.length ∧ u = .int .i64 k ∧ Own W wr d (acts (DS.new n) (l.take k)) []) (fun u _ => l.length - (intOf u).toNat)
  case atStart => exact ⟨0, Nat.zero_le _, rfl, HO.out⟩
  case round =>
  obtain ⟨k, hk, rfl, ho⟩ := hrel
  have HOW := Lib.hid ho
  clear ho
  by_cases hlt : k < l.length
  · obtain ⟨a, ha⟩ := get_some l k hlt
    obtain ⟨b, off, rfl, c0, c1, c2, c3, c4, c5⟩ := (HAl.out _ HOW.out.base).at_ ha
    have HAK := Lib.hid ha
    clear ha
    go_wp2_with fail
    refine (HDO.out k a wr HAK.out HOW.out).mono ?_
    rintro e w4 ⟨⟨s4, c4, rfl⟩, ho4⟩
    have HO4 := Lib.hid ho4
    clear ho4
    go_wp2
    go_roundw
    case rel => exact ⟨k + 1, by omega, by go_num, HO4.out⟩
    case measure => simp [intOf]; omega
  obtain rfl : k = l.length := by omega
  go_wp2_with fail
  refine (start_own HOW.out.acc).mono ?_
  rintro e w5 ⟨rfl, ho5⟩
  have hS1 : ∃ S1, (acts (DS.new n) (l.take l.length)).start = S1 ∧ S1.on ∧ S1.n = n ∧ S1.q.length ≤ 60 := ⟨_, rfl, start_on _, acts_n _ _, acts_few n l.length l (okB_len HVl.out)⟩
  obtain ⟨S1, e1, hon1, hn1', hq1⟩ := hS1
  rw [e1] at ho5
  clear e1
  have HO5 := Lib.hid ho5
  have HON1 := Lib.hid hon1
  have HN1 := Lib.hid hn1'
  have HQ1 := Lib.hid hq1
  clear ho5 hon1 hn1' hq1 HOW
  have hsy := sync_on S1 HON1.out
  have hs1 : S1.sync.1 = 0 := by rw [hsy]
  have hon2 : S1.sync.2.on := by rw [hsy]; exact HON1.out
  have hn2 : S1.sync.2.n = n := by rw [hsy]; exact HN1.out
  have hq2 : S1.sync.2.q = [] := by rw [hsy]
  obtain ⟨S2, hS2⟩ : ∃ S, S1.sync.2 = S := ⟨_, rfl⟩
  rw [hS2] at hon2 hn2 hq2
  have HS1 := Lib.hid hs1
  have HS2 := Lib.hid hS2
  have HON2 := Lib.hid hon2
  have HN2 := Lib.hid hn2
  have HQ2 := Lib.hid hq2
  clear hsy hs1 hon2 hn2 hq2 hS2
  go_wp2_with fail
  refine (sync_own HO5.out.acc).mono ?_
  rw [HS1.out, HS2.out]
  rintro e w6 ⟨rfl, ho⟩
  have HO6 := Lib.hid ho
  clear ho
  go_wp2_with fail
  refine (contents_acc n HO6.out.acc HON2.out.1 HN2.out.symm).mono ?_
  rintro e w7 ⟨b1, cc1, cur1, rfl, hst, hbl, hcu, hcc, hcz, hlo, hhi, hb⟩
  have HST1 := Lib.hid hst
  have HBL1 := Lib.hid hbl
  have HCU1 := Lib.hid hcu
  have HCZ1 := Lib.hid hcz
  have HLO1 := Lib.hid hlo
  have HHI1 := Lib.hid hhi
  have HCC1 := Lib.hid hcc
  have HP1 := Lib.hid (HO6.out.fresh hb hlo hhi)
  clear hst hbl hcu hcc hcz hlo hhi hb
  obtain ⟨i1, hi1, hy0, hy1, hy2⟩ := info_parts info_bool
  have HI := Lib.hid (And.intro hi1 (And.intro hy0 (And.intro hy1 hy2)))
  clear hi1 hy0 hy1 hy2
  go_wp2_with (at_make; refine wpList_make_full _ rfl (.tmp 60) (.tmp 60) 42 rfl w7.heap.size 4 i1 _ 1 Try.underlying42 HI.out.1 HI.out.2.1 HI.out.2.2.1 _ _ _ _ n rfl rfl (by omega) (by omega) (by rw [HI.out.2.2.2]; omega) (by simp only [maxLen]; omega) (Nat.le_refl _) ?_)
  intro w8 hown hg
  have HB8 := Lib.hid (blk_made1 hown (by omega))
  have hb8 : Below w7.heap.size w7 w8 := (Below.refl w7.heap.size w7).grown hg (Nat.le_refl _) (by simp)
  obtain ⟨bw, hbw⟩ : ∃ bw, w7.heap.size = bw := ⟨_, rfl⟩
  have HO8 := Lib.hid (HP1.out.fresh (b := w7.heap.size) hb8 (Nat.le_refl _) (by have := HB8.out.lt; exact this))
  have HBW : Hid (b1 < bw) := Lib.hid (by have := HHI1.out; omega)
  rw [hbw] at HB8 HO8 ⊢
  clear hown hg hb8 hbw
  have HINV0 : Hid (StabInv n S2 S2 (List.replicate n false)) := Lib.hid ⟨HON2.out, HN2.out, rfl, by simp, by rw [HQ2.out]; simp⟩
  have HQZ : Hid (S2.q.length ≤ 0) := Lib.hid (by rw [HQ2.out]; simp)
  go_wp2_with fail
  go_loopw [18, 19] (fun u18 u19 wr => ∃ (k : Nat) (S : DS) (ws : List Bool), k ≤ m.length ∧ u18 = .int .i64 k ∧ Own W wr d S [(bw, wr), (b1, w7)] ∧ Blk wr bw 4 (ws.map Value.bool).toArray ∧ StabInv n S2 S ws ∧ S.q.length ≤ k) (fun u18 _ _ => m.length - (intOf u18).toNat)
  case atStart => exact ⟨0, S2, List.replicate n false, Nat.zero_le _, rfl, HO8.out.now, by rw [List.map_replicate]; exact HB8.out, HINV0.out, HQZ.out⟩
  case round =>
  obtain ⟨k, S, ws, hk, rfl, ho, hbl, hinv, hqk⟩ := hrel
  have HOW := Lib.hid ho
  have HBL := Lib.hid hbl
  have HINV := Lib.hid hinv
  have HQK := Lib.hid hqk
  have hm60 := okB_len HVm.out
  clear ho hbl hinv hqk
  by_cases hlt : k < m.length
  · obtain ⟨a, ha⟩ := get_some m k hlt
    obtain ⟨kind, sec, byt, tex, od, af⟩ := a
    obtain ⟨b, off, rfl, c0, c1, c2, c3, c4, c5⟩ := (HAm.out _ HOW.out.base).at_ ha
    dsimp only at c0 c1 c2 c3 c4 c5
    have hxl := lt_of_cell c0
    have HXA : Hid (∀ w', Below W.heap.size W w' → w'.cell? ⟨b, off + k * 6, none⟩ = some (.int .i64 kind) ∧ w'.cell? ⟨b, off + k * 6 + 1, none⟩ = some (.int .i64 sec) ∧ w'.cell? ⟨b, off + k * 6 + 2, none⟩ = some (.int .i64 byt) ∧ w'.cell? ⟨b, off + k * 6 + 3, none⟩ = some (.string tex) ∧ w'.cell? ⟨b, off + k * 6 + 4, none⟩ = some (.bool od) ∧ w'.cell? ⟨b, off + k * 6 + 5, none⟩ = some (.int .i64 af)) := Lib.hid (fun w' hb => by
      obtain ⟨b', off', hbo, y0, y1, y2, y3, y4, y5⟩ := (HAm.out w' hb).at_ ha
      obtain ⟨rfl, rfl⟩ : b = b' ∧ off = off' := by simpa using hbo
      exact ⟨y0, y1, y2, y3, y4, y5⟩)
    obtain ⟨tx, htx⟩ : ∃ tx, AC.txt ⟨kind, sec, byt, tex, od, af⟩ = tx := ⟨_, rfl⟩
    have HTX : Hid (∀ w, Calls Try.prog 24 #[.agg #[.int .i64 kind, .int .i64 sec, .int .i64 byt, .string tex, .bool od, .int .i64 af]] w fun e w' => e = .returned (.string tx) ∧ Below w.heap.size w w') := by
      intro w
      rw [← htx]
      exact act_text HVm.out k ⟨kind, sec, byt, tex, od, af⟩ ha w
    have HTXE := Lib.hid htx
    have HAK := Lib.hid ha
    clear htx ha
    have HD : Hid (∀ w', Below wr.drew.heap.size wr.drew w' → Own W w' d S [(bw, wr), (b1, w7)]) := fun w' hb => HOW.out.below (below_trans (Below.drew (Below.refl _ _)) hb)
    have HXB := Lib.hid (fun w' (hb : Below wr.drew.heap.size wr.drew w') => HXA.out w' (HOW.out.base.drew.trans (hb.mono HOW.out.base.size)))
    obtain ⟨cv, S', hcs⟩ : ∃ cv T, DS.write S sec tx = (cv, T) := ⟨_, _, rfl⟩
    have HWR : Hid (∀ w', Own W w' d S [(bw, wr), (b1, w7)] → Calls Try.prog 23 #[.pointer (some ⟨d, 0, none⟩), .int .i64 sec, .string tx] w' fun e w'' => e = .returned (.int .i64 cv) ∧ Own W w'' d S' [(bw, wr), (b1, w7)]) := by
      intro w' hw
      have := write_own sec tx hw.acc (by have := HQK.out; omega)
      rw [hcs] at this
      exact this
    have HCS := Lib.hid hcs
    clear hcs
    go_wp2_with fail
    go_region_held3 (fun w' => w'.cell? ⟨b, off + k * 6, none⟩ = some (.int .i64 kind) ∧ w'.cell? ⟨b, off + k * 6 + 1, none⟩ = some (.int .i64 sec) ∧ w'.cell? ⟨b, off + k * 6 + 2, none⟩ = some (.int .i64 byt) ∧ w'.cell? ⟨b, off + k * 6 + 3, none⟩ = some (.string tex) ∧ w'.cell? ⟨b, off + k * 6 + 4, none⟩ = some (.bool od) ∧ w'.cell? ⟨b, off + k * 6 + 5, none⟩ = some (.int .i64 af))
      (first
        | go_keep
        | (go_split_ands
           exact HXB.out _ hbt)
        | (go_split_ands
           exact HXA.out _ hto.base))
      (first
        | (go_at_call 24; refine (HTX.out _).mono ?_; rintro e wt ⟨rfl, hbt⟩)
        | (go_at_call 23; refine (HWR.out _ (HD.out _ hbt)).mono ?_; rintro e wv ⟨rfl, hto⟩))
    all_goals
      have HOV := Lib.hid hto
      have HBV : Hid (Blk wv bw 4 (ws.map Value.bool).toArray) := Lib.hid (hto.blk (List.mem_cons_self) HBL.out)
      clear hto hbt
      rcases write_on S HINV.out.on sec tx with ⟨⟨h1, h2, h3⟩, h4⟩ | ⟨h1, h2⟩
      · rw [HCS.out] at h4
        simp only [Prod.mk.injEq] at h4
        obtain ⟨rfl, h4⟩ := h4
        obtain ⟨s, rfl⟩ : ∃ s : Nat, sec = s := ⟨sec.toNat, by omega⟩
        have h2' : (s : Int) < (n : Int) := by rw [← HINV.out.n_]; exact h2
        have hsn : s < n := by omega
        have HI2 : Hid (StabInv n S2 S' (ws.set s true)) := Lib.hid (HINV.out.step s tx hsn h4)
        have HQ' : Hid (S'.q.length ≤ k + 1) := Lib.hid (by rw [h4]; have := HQK.out; simp; omega)
        have hwl := HINV.out.len
        obtain ⟨wb, hwb⟩ := get_some ws s (by omega)
        have hcw : wv.cell? ⟨bw, s, none⟩ = some (.bool wb) := by
          rw [HBV.out.cell s, List.getElem?_toArray, List.getElem?_map, hwb]; rfl
        have hfw : wv.frozen? ⟨bw, s, none⟩ = false := HBV.out.frozen s
        have hbwl := HBV.out.lt
        have HOS : Hid (Own W (wv.setCell ⟨bw, s, none⟩ (.bool true)) d S' [(bw, wv.setCell ⟨bw, s, none⟩ (.bool true)), (b1, w7)]) := Lib.hid (HOV.out.store (fun p hp => by
          rcases List.mem_singleton.1 hp with rfl
          have := HBW.out
          simp only
          omega) s (.bool true))
        have HBS : Hid (Blk (wv.setCell ⟨bw, s, none⟩ (.bool true)) bw 4 ((ws.set s true).map Value.bool).toArray) := Lib.hid (by
          have := HBV.out.set s (.bool true)
          rw [List.setIfInBounds_toArray] at this
          rw [List.map_set]
          exact this)
        obtain ⟨y0, y1, y2, y3, y4, y5⟩ := HXA.out _ HOV.out.base
        clear h2 h3 h4 hwl hwb c0 c1 c2 c3 c4 c5
        go_wp2_with fail
        go_roundw
        case rel => exact ⟨k + 1, S', ws.set s true, by omega, by go_num, HOS.out, HBS.out, HI2.out, HQ'.out⟩
        case measure => simp [intOf]; omega
      · rw [HCS.out] at h2
        simp only [Prod.mk.injEq] at h2
        obtain ⟨rfl, h3⟩ := h2
        subst h3
        have HQ' : Hid (S'.q.length ≤ k + 1) := Lib.hid (by have := HQK.out; omega)
        clear h1 c0 c1 c2 c3 c4 c5
        go_wp2_with fail
        go_roundw
        case rel => exact ⟨k + 1, S', ws, by omega, by go_num, HOV.out.now, HBV.out, HINV.out, HQ'.out⟩
        case measure => simp [intOf]; omega
  obtain rfl : k = m.length := by omega
  go_wp2_with fail
  refine (fail_own wri byt0 HOW.out.acc).mono ?_
  rintro e w9 ⟨rfl, ho⟩
  have HO9 := Lib.hid ho
  clear ho
  go_wp2_with fail
  refine (start_own HO9.out.acc).mono ?_
  rintro e w10 ⟨rfl, ho⟩
  have HO10 := Lib.hid ho
  clear ho
  have HSV := Lib.hid (fun i (hi : ws[i]? = some false) => HINV.out.view HQ2.out HOW.out.good wri byt0 i hi)
  have hof4 : (S.fail wri byt0).start.off = false := rfl
  have hn4 : (S.fail wri byt0).start.n = n := (fail_n S wri byt0).trans HINV.out.n_
  obtain ⟨S4, hS4⟩ : ∃ T, (S.fail wri byt0).start = T := ⟨_, rfl⟩
  rw [hS4] at hof4 hn4 HSV HO10
  have HOF4 := Lib.hid hof4
  have HN4 := Lib.hid hn4
  clear hof4 hn4 hS4
  go_wp2_with fail
  refine (contents_acc n HO10.out.acc HOF4.out HN4.out.symm).mono ?_
  rintro e w12 ⟨b2, cc2, cur2, rfl, hst, hbl, hcu, hcc, hcz, hlo, hhi, hb⟩
  have HST2 := Lib.hid hst
  have HBL2 := Lib.hid hbl
  have HCU2 := Lib.hid hcu
  have HCZ2 := Lib.hid hcz
  have HLO2 := Lib.hid hlo
  have HHI2 := Lib.hid hhi
  have HCC2 := Lib.hid hcc
  have HP2 := Lib.hid (HO10.out.fresh hb hlo hhi)
  clear hst hbl hcu hcc hcz hlo hhi hb
  have HWC : Hid (Blk w12 bw 4 (ws.map Value.bool).toArray) := Lib.hid (HP2.out.blk (by simp) HBL.out)
  have HA1 := Lib.hid (HP2.out.strs HST1.out (by simp))
  have hwl := HINV.out.len
  go_wp2_with fail
  go_loopw [22] (fun u wr2 => ∃ (i q : Nat), i ≤ n ∧ u = .int .i64 i ∧ wr2 = w12.drewN q) (fun u _ => n - (intOf u).toNat)
  case atStart => exact ⟨0, 0, Nat.zero_le _, rfl, rfl⟩
  case round =>
  obtain ⟨i, q, hi, rfl, rfl⟩ := hrel
  by_cases hlt2 : i < n
  · obtain ⟨wb, hwb⟩ := get_some ws i (by omega)
    have hcw : w12.cell? ⟨bw, i, none⟩ = some (.bool wb) := by
      rw [HWC.out.cell i, List.getElem?_toArray, List.getElem?_map, hwb]; rfl
    have hv1 := views_at S2 i (by rw [HN2.out]; exact hlt2)
    have hv2 := views_at S4 i (by rw [HN4.out]; exact hlt2)
    obtain ⟨bx, ox, hbo, hc1⟩ := HA1.out.at_ hv1
    obtain ⟨rfl, rfl⟩ : b1 = bx ∧ 0 = ox := by simpa using hbo
    obtain ⟨by_, oy, hbo2, hc2⟩ := HST2.out.at_ hv2
    obtain ⟨rfl, rfl⟩ : b2 = by_ ∧ 0 = oy := by simpa using hbo2
    rw [Nat.zero_add] at hc1 hc2
    have HWB := Lib.hid hwb
    clear hv1 hv2 hbo hbo2 hwb
    cases wb with
    | true =>
      obtain ⟨x1, hx1⟩ : ∃ x, S2.view i = x := ⟨_, rfl⟩
      obtain ⟨x2, hx2⟩ : ∃ x, S4.view i = x := ⟨_, rfl⟩
      rw [hx1] at hc1
      rw [hx2] at hc2
      clear hx1 hx2
      go_wp2_with fail
      go_quiet (fail)
      go_wp2_with fail
      go_roundw
      case rel => exact ⟨i + 1, _, by omega, by go_num, rfl⟩
      case measure => simp [intOf]; omega
    | false =>
      rw [HSV.out i HWB.out] at hc2
      obtain ⟨x1, hx1⟩ : ∃ x, S2.view i = x := ⟨_, rfl⟩
      rw [hx1] at hc1 hc2
      clear hx1
      have t1 : (x1.toList == x1.toList) = true := by simp
      have t2 : (x1.toList != x1.toList) = false := by simp
      go_wp2_with fail
      go_quiet (fail)
      go_wp2_with fail
      go_roundw
      case rel => exact ⟨i + 1, _, by omega, by go_num, rfl⟩
      case measure => simp [intOf]; omega
  · obtain rfl : i = n := by omega
    go_wp2
    go_ret
    exact ⟨rfl, below_drewN HP2.out.base _⟩

end Go.Proofs.Ytomcjohdenjljaa
