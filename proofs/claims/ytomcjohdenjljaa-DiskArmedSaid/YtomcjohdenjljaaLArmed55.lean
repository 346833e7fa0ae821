/- The law DiskArmed: the walk. -/
import Derived.Test.YtomcjohdenjljaaArm55
namespace Go.Proofs.Ytomcjohdenjljaa
open Go.RowKit

set_option maxRecDepth 100000 in
set_option maxHeartbeats 200000000 in
theorem armed_walk (r : UInt8) (A : Option Addr) (c : Nat) (l : List AC) (B : Option Addr) (c2 : Nat) (m : List AC) (after wri byt0 : Int) (hafter : after ≤ 9223372036854775807) (hafter2 : -9223372036854775808 ≤ after) (w : World) (hl : Acs w A l) (hll : l.length ≤ 9223372036854775807) (hfitl : fits l) (hm : Acs w B m) (hlm : m.length ≤ 9223372036854775807) (hfitm : fits m) :
    Calls Try.prog 8 #[.int .u8 r.toNat, .slice A l.length c, .slice B m.length c2, .int .i64 after, .int .i64 wri, .int .i64 byt0] w fun e w' => e = .returned (.bool true) ∧ Below w.heap.size w w' := by
  obtain ⟨W, rfl⟩ : ∃ W, W = w := ⟨_, rfl⟩
  have HAl : Hid (∀ w', Below W.heap.size W w' → Acs w' A l) := fun w' hb => hl.below hb
  clear hl
  obtain ⟨vl, hvl⟩ : ∃ v, okB l = v := ⟨_, rfl⟩
  have HVl := Lib.hid hvl
  clear hvl
  have HAm : Hid (∀ w', Below W.heap.size W w' → Acs w' B m) := fun w' hb => hm.below hb
  clear hm
  obtain ⟨vm, hvm⟩ : ∃ v, okB m = v := ⟨_, rfl⟩
  have HVm := Lib.hid hvm
  clear hvm
  obtain ⟨n, hn⟩ : ∃ n, nOf r = n := ⟨_, rfl⟩
  have hn1 := nOf_lo r
  have hn2 := nOf_hi r
  have hsize := size_nOf r
  rw [hn] at hn1 hn2 hsize
  have HSIZE := Lib.hid hsize
  clear hn hsize
  obtain ⟨rv, hrv⟩ : ∃ rv, r.toNat = rv := ⟨_, rfl⟩
  rw [hrv] at HSIZE ⊢
  clear hrv
  go_enter Try.func8, Try.ntmps8
  go_wp2_with fail
  refine (head_any _).mono ?_
  rintro e w1 ⟨rfl, hb1⟩
  have HB1 := Lib.hid hb1
  clear hb1
  go_wp2_with fail
  have hokl := ok_any A c l w1 (HAl.out w1 HB1.out) hll
  rw [HVl.out] at hokl
  refine hokl.mono ?_
  rintro e _ ⟨rfl, rfl⟩
  clear hokl
  cases vl with
  | false =>
    go_wp2
    go_ret
    exact ⟨rfl, HB1.out⟩
  | true =>
  go_wp2_with fail
  have hokm := ok_any B c2 m w1 (HAm.out w1 HB1.out) hlm
  rw [HVm.out] at hokm
  refine hokm.mono ?_
  rintro e _ ⟨rfl, rfl⟩
  clear hokm
  cases vm with
  | false =>
    go_wp2
    go_ret
    exact ⟨rfl, HB1.out⟩
  | true =>
  go_wp2_with fail
  refine (HSIZE.out _).mono ?_
  rintro e _ ⟨rfl, rfl⟩
  go_wp2_with fail
  refine (new_own W n hn1 (by omega) w1 HB1.out).mono ?_
  rintro e w3 ⟨d, rfl, ho⟩
  have HO := Lib.hid ho
  clear ho
  go_wp2_with fail
  refine (new_two W n hn1 (by omega) w3 d (DS.new n) HO.out).mono ?_
  rintro e w3b ⟨d2, rfl, ho⟩
  have HO2 := Lib.hid ho
  clear ho
  have HDO := Lib.hid (fun k a wr (hk : l[k]? = some a) (ho : Two W wr d (acts (DS.new n) (l.take k)) d2 (acts (DS.new n) (l.take k)) []) => do_step HVl.out hfitl n k a hk ho.acc)
  have HDO2 := Lib.hid (fun k a wr S (hk : l[k]? = some a) (ho : Two W wr d S d2 (acts (DS.new n) (l.take k)) []) => do_step HVl.out hfitl n k a hk ho.acc2)
  go_wp2_with fail
  go_loopw [17] (fun u wr => ∃ k : Nat, k ≤ l.length ∧ u = .int .i64 k ∧ Two W wr d (acts (DS.new n) (l.take k)) d2 (acts (DS.new n) (l.take k)) []) (fun u _ => l.length - (intOf u).toNat)
  case atStart => exact ⟨0, Nat.zero_le _, rfl, HO2.out⟩
  case round =>
  obtain ⟨k, hk, rfl, ho⟩ := hrel
  have HOW := Lib.hid ho
  clear ho
  by_cases hlt : k < l.length
  · obtain ⟨a, ha⟩ := get_some l k hlt
    obtain ⟨b, off, rfl, c0, c1, c2, c3, c4, c5⟩ := (HAl.out _ HOW.out.base).at_ ha
    have HAK := Lib.hid ha
    clear ha
    go_wp2_with fail
    refine (HDO.out k a wr HAK.out HOW.out).mono ?_
    rintro e w4 ⟨⟨s4, c4', rfl⟩, ho4⟩
    have HO4 := Lib.hid ho4
    clear ho4 c0 c1 c2 c3 c4 c5
    obtain ⟨b', off', hbo, c0, c1, c2, c3, c4, c5⟩ := (HAl.out _ HO4.out.base).at_ HAK.out
    obtain ⟨rfl, rfl⟩ : b = b' ∧ off = off' := by simpa using hbo
    clear hbo
    go_wp2_with fail
    refine (HDO2.out k a w4 _ HAK.out HO4.out).mono ?_
    rintro e w4b ⟨⟨s4', c4', rfl⟩, ho4⟩
    have HO4b := Lib.hid ho4
    clear ho4
    go_wp2
    go_roundw
    case rel => exact ⟨k + 1, by omega, by go_num, HO4b.out⟩
    case measure => simp [intOf]; omega
  obtain rfl : k = l.length := by omega
  go_wp2_with fail
  refine (start_own HOW.out.acc).mono ?_
  rintro e w5 ⟨rfl, ho5⟩
  have HO5a := Lib.hid ho5
  clear ho5
  go_wp2_with fail
  refine (start_own HO5a.out.acc2).mono ?_
  rintro e w5b ⟨rfl, ho5⟩
  have hS1 : ∃ S1, (acts (DS.new n) (l.take l.length)).start = S1 ∧ S1.on ∧ S1.n = n ∧ S1.q.length ≤ 60 := ⟨_, rfl, start_on _, acts_n _ _, acts_few n l.length l (okB_len HVl.out)⟩
  obtain ⟨S1, e1, hon1, hn1', hq1⟩ := hS1
  rw [e1] at ho5
  clear e1
  have HO5 := Lib.hid ho5
  have HON1 := Lib.hid hon1
  have HN1 := Lib.hid hn1'
  have HQ1 := Lib.hid hq1
  clear ho5 hon1 hn1' hq1 HOW HO5a
  go_wp2_with fail
  refine (arm_own after wri byt0 HO5.out.acc hafter).mono ?_
  rintro e w6 ⟨rfl, ho⟩
  have HO6 := Lib.hid ho
  clear ho
  have HINV0 : Hid (ArmInv n 0 after after S1) := Lib.hid ⟨HON1.out, HN1.out, HQ1.out, fun _ => rfl, fun h => ⟨h, Int.le_refl _⟩⟩
  have hm60 := okB_len HVm.out
  go_wp2_with fail
  go_loopw [18, 19] (fun u18 u19 wr => ∃ (k : Nat) (left : Int) (S : DS), k ≤ m.length ∧ u19 = .int .i64 k ∧ u18 = .int .i64 left ∧ Two W wr d (S.setArm left wri byt0) d2 S [] ∧ ArmInv n k after left S) (fun _ u19 _ => m.length - (intOf u19).toNat)
  case atStart => exact ⟨0, after, S1, Nat.zero_le _, rfl, rfl, HO6.out, HINV0.out⟩
  case round =>
  obtain ⟨k, left, S, hk, rfl, rfl, ho, hinv⟩ := hrel
  have HOW := Lib.hid ho
  have HINV := Lib.hid hinv
  clear ho hinv
  have hlr : after < 0 ∨ 0 ≤ after := by omega
  have hlb : (after < 0 ∧ left = after) ∨ (0 ≤ after ∧ 0 ≤ left ∧ left ≤ after) := by
    rcases hlr with h | h
    · exact .inl ⟨h, HINV.out.neg h⟩
    · exact .inr ⟨h, HINV.out.pos h⟩
  clear hlr
  by_cases hlt : k < m.length
  · obtain ⟨a, ha⟩ := get_some m k hlt
    obtain ⟨kind, sec, byt, tex, od, af⟩ := a
    obtain ⟨b, off, rfl, c0, c1, c2, c3, c4, c5⟩ := (HAm.out _ HOW.out.base).at_ ha
    dsimp only at c0 c1 c2 c3 c4 c5
    have hxl := lt_of_cell c0
    have HXA : Hid (∀ w', Below W.heap.size W w' → w'.cell? ⟨b, off + k * 6, none⟩ = some (.int .i64 kind) ∧ w'.cell? ⟨b, off + k * 6 + 1, none⟩ = some (.int .i64 sec) ∧ w'.cell? ⟨b, off + k * 6 + 2, none⟩ = some (.int .i64 byt) ∧ w'.cell? ⟨b, off + k * 6 + 3, none⟩ = some (.string tex) ∧ w'.cell? ⟨b, off + k * 6 + 4, none⟩ = some (.bool od) ∧ w'.cell? ⟨b, off + k * 6 + 5, none⟩ = some (.int .i64 af)) := Lib.hid (fun w' hb => by
      obtain ⟨b', off', hbo, y0, y1, y2, y3, y4, y5⟩ := (HAm.out w' hb).at_ ha
      obtain ⟨rfl, rfl⟩ : b = b' ∧ off = off' := by simpa using hbo
      exact ⟨y0, y1, y2, y3, y4, y5⟩)
    obtain ⟨tx, htx⟩ : ∃ tx, AC.txt ⟨kind, sec, byt, tex, od, af⟩ = tx := ⟨_, rfl⟩
    have HTX : Hid (∀ w, Calls Try.prog 24 #[.agg #[.int .i64 kind, .int .i64 sec, .int .i64 byt, .string tex, .bool od, .int .i64 af]] w fun e w' => e = .returned (.string tx) ∧ Below w.heap.size w w') := by
      intro w
      rw [← htx]
      exact act_text HVm.out k ⟨kind, sec, byt, tex, od, af⟩ ha w
    have HTXE := Lib.hid htx
    have HAK := Lib.hid ha
    clear htx ha
    by_cases hk2 : kind = 2
    · have t1 : (kind == 2) = true := by simpa using hk2
      have HK2 := Lib.hid hk2
      clear hk2
      have HAS := Lib.hid (arm_sync S HINV.out.on left wri byt0)
      by_cases hl0 : left = 0
      · have t2 : (left == 0) = true := by simpa using hl0
        have HL0 := Lib.hid hl0
        clear hl0
        go_wp2_with fail
        refine (fail_own wri byt0 HOW.out.acc2).mono ?_
        rintro e w7 ⟨rfl, ho⟩
        have HO7 := Lib.hid ho
        clear ho
        go_wp2_with fail
        refine (sync_own HO7.out.acc).mono ?_
        rw [HAS.out.2.2.2.2.1 HL0.out]
        rintro e w8 ⟨rfl, ho⟩
        have HZ : Hid (Two W w8 d (S.fail wri byt0) d2 (S.fail wri byt0) []) := Lib.hid ho
        clear ho c0 c1 c2 c3 c4 c5
        have hap : 0 ≤ after := by have := HL0.out; omega
        obtain ⟨Sa, hSa⟩ : ∃ X, S.fail wri byt0 = X := ⟨_, rfl⟩
        have HPU : Hid (Sa.start.views = Sa.start.views ∧ Sa.start.n = n ∧ Sa.start.off = false ∧ Sa.start.n = n ∧ Sa.start.off = false) := Lib.hid (by
          rw [← hSa]
          exact ⟨rfl, (fail_n S wri byt0).trans HINV.out.n_, rfl, (fail_n S wri byt0).trans HINV.out.n_, rfl⟩)
        rw [hSa] at HZ
        clear hSa
        go_wp2_with fail
        refine (start_own HZ.out.acc).mono ?_
        rintro e w20 ⟨rfl, ho⟩
        have HO20 := Lib.hid ho
        clear ho
        go_wp2_with fail
        refine (start_own HO20.out.acc2).mono ?_
        rintro e w21 ⟨rfl, ho⟩
        have HO21 := Lib.hid ho
        clear ho
        go_wp2_with fail
        refine (contents_acc n HO21.out.acc HPU.out.2.2.1 HPU.out.2.1.symm).mono ?_
        rintro e w22 ⟨b1, cc1, cur1, rfl, hst1, -, -, -, -, hlo1, hhi1, hb1⟩
        have HST1 := Lib.hid hst1
        have HO22 := Lib.hid (HO21.out.fresh hb1 hlo1 hhi1)
        clear hst1 hlo1 hhi1 hb1
        go_wp2_with fail
        refine (contents_acc n HO22.out.acc2 HPU.out.2.2.2.2 HPU.out.2.2.2.1.symm).mono ?_
        rintro e w23 ⟨b2, cc2, cur2, rfl, hst2, -, -, -, -, hlo2, hhi2, hb2⟩
        have HST2 := Lib.hid hst2
        have HO23 := Lib.hid (HO22.out.fresh hb2 hlo2 hhi2)
        have HST1' := Lib.hid (HO23.out.strs HST1.out (by simp))
        clear hst2 hlo2 hhi2 hb2
        have hsm := same_at n b1 b2 cc1 cc2 Sa.start.views Sa.start.views w23 HST1'.out HST2.out (by rw [views_length, HPU.out.2.1]) (by rw [views_length, HPU.out.2.2.2.1]) (by omega)
        rw [decide_eq_true (rfl : Sa.start.views = Sa.start.views)] at hsm
        have HSM := Lib.hid hsm
        clear hsm
        go_wp2_with fail
        refine HSM.out.mono ?_
        rintro e w24 ⟨rfl, hb24⟩
        have HB24 := Lib.hid (HO23.out.base.trans (hb24.mono HO23.out.base.size))
        clear hb24
        go_wp2
        go_ret
        exact ⟨rfl, HB24.out⟩
      · have t2 : (left == 0) = false := by simpa using hl0
        go_wp2_with fail
        refine (sync_own HOW.out.acc2).mono ?_
        rw [HAS.out.1]
        rintro e w7 ⟨rfl, ho⟩
        have HO7 := Lib.hid ho
        clear ho
        by_cases hlp : 0 < left
        · go_wp2_with fail
          refine (sync_own HO7.out.acc).mono ?_
          rw [HAS.out.2.2.2.2.2.1 hlp]
          rintro e w8 ⟨rfl, ho⟩
          have HZ : Hid (Two W w8 d (S.sync.2.setArm (left - 1) wri byt0) d2 S.sync.2 []) := Lib.hid ho
          have HIN' : Hid (ArmInv n (k + 1) after (left - 1) S.sync.2) := Lib.hid ⟨HAS.out.2.1, HAS.out.2.2.1.trans HINV.out.n_, by have := HAS.out.2.2.2.1; have := HINV.out.few; omega, fun h => by omega, fun h => by omega⟩
          clear ho c0 c1 c2 c3 c4 c5
          go_wp2_with fail
          go_roundw
          case rel => exact ⟨k + 1, left - 1, S.sync.2, by omega, by go_num, by go_num, HZ.out, HIN'.out⟩
          case measure => simp [intOf]; omega
        · go_wp2_with fail
          refine (sync_own HO7.out.acc).mono ?_
          rw [HAS.out.2.2.2.2.2.2 (by omega)]
          rintro e w8 ⟨rfl, ho⟩
          have HZ : Hid (Two W w8 d (S.sync.2.setArm left wri byt0) d2 S.sync.2 []) := Lib.hid ho
          have HIN' : Hid (ArmInv n (k + 1) after left S.sync.2) := Lib.hid ⟨HAS.out.2.1, HAS.out.2.2.1.trans HINV.out.n_, by have := HAS.out.2.2.2.1; have := HINV.out.few; omega, HINV.out.neg, HINV.out.pos⟩
          clear ho c0 c1 c2 c3 c4 c5
          go_wp2_with fail
          go_roundw
          case rel => exact ⟨k + 1, left, S.sync.2, by omega, by go_num, by go_num, HZ.out, HIN'.out⟩
          case measure => simp [intOf]; omega
    · have t1 : (kind == 2) = false := by simpa using hk2
      clear hk2
      have HD : Hid (∀ w', Below wr.drew.heap.size wr.drew w' → Two W w' d (S.setArm left wri byt0) d2 S []) := fun w' hb => HOW.out.below (below_trans (Below.drew (Below.refl _ _)) hb)
      have HXB := Lib.hid (fun w' (hb : Below wr.drew.heap.size wr.drew w') => HXA.out w' (HOW.out.base.drew.trans (hb.mono HOW.out.base.size)))
      obtain ⟨cv, S', hcs⟩ : ∃ cv T, DS.write S sec tx = (cv, T) := ⟨_, _, rfl⟩
      have HWR : Hid (∀ w', Two W w' d (S.setArm left wri byt0) d2 S [] → Calls Try.prog 23 #[.pointer (some ⟨d2, 0, none⟩), .int .i64 sec, .string tx] w' fun e w'' => e = .returned (.int .i64 cv) ∧ Two W w'' d (S.setArm left wri byt0) d2 S' []) := by
        intro w' hw
        have := write_own sec tx hw.acc2 (by have := HINV.out.few; omega)
        rw [hcs] at this
        exact this
      have HCS := Lib.hid hcs
      clear hcs
      go_wp2_with fail
      go_region_held3 (fun w' => w'.cell? ⟨b, off + k * 6, none⟩ = some (.int .i64 kind) ∧ w'.cell? ⟨b, off + k * 6 + 1, none⟩ = some (.int .i64 sec) ∧ w'.cell? ⟨b, off + k * 6 + 2, none⟩ = some (.int .i64 byt) ∧ w'.cell? ⟨b, off + k * 6 + 3, none⟩ = some (.string tex) ∧ w'.cell? ⟨b, off + k * 6 + 4, none⟩ = some (.bool od) ∧ w'.cell? ⟨b, off + k * 6 + 5, none⟩ = some (.int .i64 af))
        (first
          | go_keep
          | (go_split_ands
             exact HXB.out _ hbt)
          | (go_split_ands
             exact HXA.out _ hto.base))
        (first
          | (go_at_call 24; refine (HTX.out _).mono ?_; rintro e wt ⟨rfl, hbt⟩)
          | (go_at_call 23; refine (HWR.out _ (HD.out _ hbt)).mono ?_; rintro e wv ⟨rfl, hto⟩))
      all_goals
        have HOV := Lib.hid hto
        clear hto hbt
        rcases arm_write S S' HINV.out.on left wri byt0 sec tx cv HCS.out with ⟨rfl, rfl, h3⟩ | ⟨rfl, h2, h3, h4, h5, h6, h7⟩
        · have H3 := Lib.hid h3
          clear h3 c0 c1 c2 c3 c4 c5
          obtain ⟨c0, c1, c2, c3, c4, c5⟩ := HXA.out _ HOV.out.base
          have HDx : Hid (∀ w', Below wv.drew.heap.size wv.drew w' → Two W w' d (S'.setArm left wri byt0) d2 S' []) := fun w' hb => HOV.out.below (below_trans (Below.drew (Below.refl _ _)) hb)
          have HXBx := Lib.hid (fun w' (hb : Below wv.drew.heap.size wv.drew w') => HXA.out w' (HOV.out.base.drew.trans (hb.mono HOV.out.base.size)))
          obtain ⟨cvx, S2x, hcs⟩ : ∃ cv T, DS.write (S'.setArm left wri byt0) sec tx = (cv, T) := ⟨_, _, rfl⟩
          have HWRx : Hid (∀ w', Two W w' d (S'.setArm left wri byt0) d2 S' [] → Calls Try.prog 23 #[.pointer (some ⟨d, 0, none⟩), .int .i64 sec, .string tx] w' fun e w'' => e = .returned (.int .i64 cvx) ∧ Two W w'' d S2x d2 S' []) := by
            intro w' hw
            have := write_own sec tx hw.acc (by rw [setArm_q]; have := HINV.out.few; omega)
            rw [hcs] at this
            exact this
          have HCSx := Lib.hid hcs
          clear hcs
          go_wp2_with fail
          go_region_held3 (fun w' => w'.cell? ⟨b, off + k * 6, none⟩ = some (.int .i64 kind) ∧ w'.cell? ⟨b, off + k * 6 + 1, none⟩ = some (.int .i64 sec) ∧ w'.cell? ⟨b, off + k * 6 + 2, none⟩ = some (.int .i64 byt) ∧ w'.cell? ⟨b, off + k * 6 + 3, none⟩ = some (.string tex) ∧ w'.cell? ⟨b, off + k * 6 + 4, none⟩ = some (.bool od) ∧ w'.cell? ⟨b, off + k * 6 + 5, none⟩ = some (.int .i64 af))
            (first
              | go_keep
              | (go_split_ands
                 exact HXBx.out _ hbtx)
              | (go_split_ands
                 exact HXA.out _ htox.base))
            (first
              | (go_at_call 24; refine (HTX.out _).mono ?_; rintro e wtx ⟨rfl, hbtx⟩)
              | (go_at_call 23; refine (HWRx.out _ (HDx.out _ hbtx)).mono ?_; rintro e wvx ⟨rfl, htox⟩))
          all_goals
            have hz := HCSx.out
            rw [H3.out] at hz
            simp only [Prod.mk.injEq] at hz
            obtain ⟨rfl, hz⟩ := hz
            have HZ : Hid (Two W wvx d (S'.setArm left wri byt0) d2 S' []) := Lib.hid (by rw [hz]; exact htox)
            have HIN' : Hid (ArmInv n (k + 1) after left S') := Lib.hid ⟨HINV.out.on, HINV.out.n_, by have := HINV.out.few; omega, HINV.out.neg, HINV.out.pos⟩
            clear hz htox hbtx c0 c1 c2 c3 c4 c5
            go_wp2_with fail
            go_roundw
            case rel => exact ⟨k + 1, left, S', by omega, by go_num, by go_num, HZ.out, HIN'.out⟩
            case measure => simp [intOf]; omega
        · have H2 := Lib.hid h2
          have H3 := Lib.hid h3
          have H4 := Lib.hid h4
          have H5 := Lib.hid h5
          have H6 := Lib.hid h6
          have H7 := Lib.hid h7
          clear h2 h3 h4 h5 h6 h7 c0 c1 c2 c3 c4 c5
          by_cases hl0 : left = 0
          · have t2 : (left == 0) = true := by simpa using hl0
            have HL0 := Lib.hid hl0
            clear hl0
            go_wp2_with fail
            refine (fail_own wri byt0 HOV.out.acc2).mono ?_
            rintro e w7 ⟨rfl, ho⟩
            have HO7 := Lib.hid ho
            clear ho
            obtain ⟨c0, c1, c2, c3, c4, c5⟩ := HXA.out _ HO7.out.base
            have HDy : Hid (∀ w', Below w7.drew.heap.size w7.drew w' → Two W w' d (S.setArm left wri byt0) d2 (S'.fail wri byt0) []) := fun w' hb => HO7.out.below (below_trans (Below.drew (Below.refl _ _)) hb)
            have HXBy := Lib.hid (fun w' (hb : Below w7.drew.heap.size w7.drew w') => HXA.out w' (HO7.out.base.drew.trans (hb.mono HO7.out.base.size)))
            obtain ⟨cvy, S2y, hcs⟩ : ∃ cv T, DS.write (S.setArm left wri byt0) sec tx = (cv, T) := ⟨_, _, rfl⟩
            have HWRy : Hid (∀ w', Two W w' d (S.setArm left wri byt0) d2 (S'.fail wri byt0) [] → Calls Try.prog 23 #[.pointer (some ⟨d, 0, none⟩), .int .i64 sec, .string tx] w' fun e w'' => e = .returned (.int .i64 cvy) ∧ Two W w'' d S2y d2 (S'.fail wri byt0) []) := by
              intro w' hw
              have := write_own sec tx hw.acc (by rw [setArm_q]; have := HINV.out.few; omega)
              rw [hcs] at this
              exact this
            have HCSy := Lib.hid hcs
            clear hcs
            go_wp2_with fail
            go_region_held3 (fun w' => w'.cell? ⟨b, off + k * 6, none⟩ = some (.int .i64 kind) ∧ w'.cell? ⟨b, off + k * 6 + 1, none⟩ = some (.int .i64 sec) ∧ w'.cell? ⟨b, off + k * 6 + 2, none⟩ = some (.int .i64 byt) ∧ w'.cell? ⟨b, off + k * 6 + 3, none⟩ = some (.string tex) ∧ w'.cell? ⟨b, off + k * 6 + 4, none⟩ = some (.bool od) ∧ w'.cell? ⟨b, off + k * 6 + 5, none⟩ = some (.int .i64 af))
              (first
                | go_keep
                | (go_split_ands
                   exact HXBy.out _ hbty)
                | (go_split_ands
                   exact HXA.out _ htoy.base))
              (first
                | (go_at_call 24; refine (HTX.out _).mono ?_; rintro e wty ⟨rfl, hbty⟩)
                | (go_at_call 23; refine (HWRy.out _ (HDy.out _ hbty)).mono ?_; rintro e wvy ⟨rfl, htoy⟩))
            all_goals
              have hz := HCSy.out
              rw [H5.out HL0.out] at hz
              simp only [Prod.mk.injEq] at hz
              obtain ⟨rfl, hz⟩ := hz
              have HZ : Hid (Two W wvy d (S'.fail wri byt0) d2 (S'.fail wri byt0) []) := Lib.hid (by rw [← hz] at htoy; exact htoy)
              clear hz htoy hbty c0 c1 c2 c3 c4 c5
              have hap : 0 ≤ after := by have := HL0.out; omega
              obtain ⟨Sa, hSa⟩ : ∃ X, S'.fail wri byt0 = X := ⟨_, rfl⟩
              have HPU : Hid (Sa.start.views = Sa.start.views ∧ Sa.start.n = n ∧ Sa.start.off = false ∧ Sa.start.n = n ∧ Sa.start.off = false) := Lib.hid (by
                rw [← hSa]
                exact ⟨rfl, (fail_n S' wri byt0).trans (H3.out.trans HINV.out.n_), rfl, (fail_n S' wri byt0).trans (H3.out.trans HINV.out.n_), rfl⟩)
              rw [hSa] at HZ
              clear hSa
              go_wp2_with fail
              refine (start_own HZ.out.acc).mono ?_
              rintro e w20 ⟨rfl, ho⟩
              have HO20 := Lib.hid ho
              clear ho
              go_wp2_with fail
              refine (start_own HO20.out.acc2).mono ?_
              rintro e w21 ⟨rfl, ho⟩
              have HO21 := Lib.hid ho
              clear ho
              go_wp2_with fail
              refine (contents_acc n HO21.out.acc HPU.out.2.2.1 HPU.out.2.1.symm).mono ?_
              rintro e w22 ⟨b1, cc1, cur1, rfl, hst1, -, -, -, -, hlo1, hhi1, hb1⟩
              have HST1 := Lib.hid hst1
              have HO22 := Lib.hid (HO21.out.fresh hb1 hlo1 hhi1)
              clear hst1 hlo1 hhi1 hb1
              go_wp2_with fail
              refine (contents_acc n HO22.out.acc2 HPU.out.2.2.2.2 HPU.out.2.2.2.1.symm).mono ?_
              rintro e w23 ⟨b2, cc2, cur2, rfl, hst2, -, -, -, -, hlo2, hhi2, hb2⟩
              have HST2 := Lib.hid hst2
              have HO23 := Lib.hid (HO22.out.fresh hb2 hlo2 hhi2)
              have HST1' := Lib.hid (HO23.out.strs HST1.out (by simp))
              clear hst2 hlo2 hhi2 hb2
              have hsm := same_at n b1 b2 cc1 cc2 Sa.start.views Sa.start.views w23 HST1'.out HST2.out (by rw [views_length, HPU.out.2.1]) (by rw [views_length, HPU.out.2.2.2.1]) (by omega)
              rw [decide_eq_true (rfl : Sa.start.views = Sa.start.views)] at hsm
              have HSM := Lib.hid hsm
              clear hsm
              go_wp2_with fail
              refine HSM.out.mono ?_
              rintro e w24 ⟨rfl, hb24⟩
              have HB24 := Lib.hid (HO23.out.base.trans (hb24.mono HO23.out.base.size))
              clear hb24
              go_wp2
              go_ret
              exact ⟨rfl, HB24.out⟩
          · have t2 : (left == 0) = false := by simpa using hl0
            obtain ⟨c0, c1, c2, c3, c4, c5⟩ := HXA.out _ HOV.out.base
            by_cases hlp : 0 < left
            · have HDz : Hid (∀ w', Below wv.drew.heap.size wv.drew w' → Two W w' d (S.setArm left wri byt0) d2 S' []) := fun w' hb => HOV.out.below (below_trans (Below.drew (Below.refl _ _)) hb)
              have HXBz := Lib.hid (fun w' (hb : Below wv.drew.heap.size wv.drew w') => HXA.out w' (HOV.out.base.drew.trans (hb.mono HOV.out.base.size)))
              obtain ⟨cvz, S2z, hcs⟩ : ∃ cv T, DS.write (S.setArm left wri byt0) sec tx = (cv, T) := ⟨_, _, rfl⟩
              have HWRz : Hid (∀ w', Two W w' d (S.setArm left wri byt0) d2 S' [] → Calls Try.prog 23 #[.pointer (some ⟨d, 0, none⟩), .int .i64 sec, .string tx] w' fun e w'' => e = .returned (.int .i64 cvz) ∧ Two W w'' d S2z d2 S' []) := by
                intro w' hw
                have := write_own sec tx hw.acc (by rw [setArm_q]; have := HINV.out.few; omega)
                rw [hcs] at this
                exact this
              have HCSz := Lib.hid hcs
              clear hcs
              go_wp2_with fail
              go_region_held3 (fun w' => w'.cell? ⟨b, off + k * 6, none⟩ = some (.int .i64 kind) ∧ w'.cell? ⟨b, off + k * 6 + 1, none⟩ = some (.int .i64 sec) ∧ w'.cell? ⟨b, off + k * 6 + 2, none⟩ = some (.int .i64 byt) ∧ w'.cell? ⟨b, off + k * 6 + 3, none⟩ = some (.string tex) ∧ w'.cell? ⟨b, off + k * 6 + 4, none⟩ = some (.bool od) ∧ w'.cell? ⟨b, off + k * 6 + 5, none⟩ = some (.int .i64 af))
                (first
                  | go_keep
                  | (go_split_ands
                     exact HXBz.out _ hbtz)
                  | (go_split_ands
                     exact HXA.out _ htoz.base))
                (first
                  | (go_at_call 24; refine (HTX.out _).mono ?_; rintro e wtz ⟨rfl, hbtz⟩)
                  | (go_at_call 23; refine (HWRz.out _ (HDz.out _ hbtz)).mono ?_; rintro e wvz ⟨rfl, htoz⟩))
              all_goals
                have hz := HCSz.out
                rw [H6.out hlp] at hz
                simp only [Prod.mk.injEq] at hz
                obtain ⟨rfl, hz⟩ := hz
                have HZ : Hid (Two W wvz d (S'.setArm (left - 1) wri byt0) d2 S' []) := Lib.hid (by rw [hz]; exact htoz)
                have HIN' : Hid (ArmInv n (k + 1) after (left - 1) S') := Lib.hid ⟨H2.out, H3.out.trans HINV.out.n_, by have := H4.out; have := HINV.out.few; omega, fun h => by omega, fun h => by omega⟩
                clear hz htoz hbtz c0 c1 c2 c3 c4 c5
                go_wp2_with fail
                go_roundw
                case rel => exact ⟨k + 1, left - 1, S', by omega, by go_num, by go_num, HZ.out, HIN'.out⟩
                case measure => simp [intOf]; omega
            · have HDu : Hid (∀ w', Below wv.drew.heap.size wv.drew w' → Two W w' d (S.setArm left wri byt0) d2 S' []) := fun w' hb => HOV.out.below (below_trans (Below.drew (Below.refl _ _)) hb)
              have HXBu := Lib.hid (fun w' (hb : Below wv.drew.heap.size wv.drew w') => HXA.out w' (HOV.out.base.drew.trans (hb.mono HOV.out.base.size)))
              obtain ⟨cvu, S2u, hcs⟩ : ∃ cv T, DS.write (S.setArm left wri byt0) sec tx = (cv, T) := ⟨_, _, rfl⟩
              have HWRu : Hid (∀ w', Two W w' d (S.setArm left wri byt0) d2 S' [] → Calls Try.prog 23 #[.pointer (some ⟨d, 0, none⟩), .int .i64 sec, .string tx] w' fun e w'' => e = .returned (.int .i64 cvu) ∧ Two W w'' d S2u d2 S' []) := by
                intro w' hw
                have := write_own sec tx hw.acc (by rw [setArm_q]; have := HINV.out.few; omega)
                rw [hcs] at this
                exact this
              have HCSu := Lib.hid hcs
              clear hcs
              go_wp2_with fail
              go_region_held3 (fun w' => w'.cell? ⟨b, off + k * 6, none⟩ = some (.int .i64 kind) ∧ w'.cell? ⟨b, off + k * 6 + 1, none⟩ = some (.int .i64 sec) ∧ w'.cell? ⟨b, off + k * 6 + 2, none⟩ = some (.int .i64 byt) ∧ w'.cell? ⟨b, off + k * 6 + 3, none⟩ = some (.string tex) ∧ w'.cell? ⟨b, off + k * 6 + 4, none⟩ = some (.bool od) ∧ w'.cell? ⟨b, off + k * 6 + 5, none⟩ = some (.int .i64 af))
                (first
                  | go_keep
                  | (go_split_ands
                     exact HXBu.out _ hbtu)
                  | (go_split_ands
                     exact HXA.out _ htou.base))
                (first
                  | (go_at_call 24; refine (HTX.out _).mono ?_; rintro e wtu ⟨rfl, hbtu⟩)
                  | (go_at_call 23; refine (HWRu.out _ (HDu.out _ hbtu)).mono ?_; rintro e wvu ⟨rfl, htou⟩))
              all_goals
                have hz := HCSu.out
                rw [H7.out (by omega)] at hz
                simp only [Prod.mk.injEq] at hz
                obtain ⟨rfl, hz⟩ := hz
                have HZ : Hid (Two W wvu d (S'.setArm left wri byt0) d2 S' []) := Lib.hid (by rw [hz]; exact htou)
                have HIN' : Hid (ArmInv n (k + 1) after left S') := Lib.hid ⟨H2.out, H3.out.trans HINV.out.n_, by have := H4.out; have := HINV.out.few; omega, HINV.out.neg, HINV.out.pos⟩
                clear hz htou hbtu c0 c1 c2 c3 c4 c5
                go_wp2_with fail
                go_roundw
                case rel => exact ⟨k + 1, left, S', by omega, by go_num, by go_num, HZ.out, HIN'.out⟩
                case measure => simp [intOf]; omega
  have HZ := HOW
  clear HOW
  rcases hlb with ⟨h1, h2⟩ | ⟨h1, h2, h3⟩
  · subst h2
    obtain ⟨Sa, hSa⟩ : ∃ X, S.setArm left wri byt0 = X := ⟨_, rfl⟩
    obtain ⟨Sb, hSb⟩ : ∃ X, S = X := ⟨_, rfl⟩
    have HPU : Hid (Sa.start.views = Sb.start.views ∧ Sa.start.n = n ∧ Sa.start.off = false ∧ Sb.start.n = n ∧ Sb.start.off = false) := Lib.hid (by
      rw [← hSa, ← hSb]
      exact ⟨(arm_start S HINV.out.on left wri byt0).1, (arm_start S HINV.out.on left wri byt0).2.1.trans HINV.out.n_, (arm_start S HINV.out.on left wri byt0).2.2, HINV.out.n_, rfl⟩)
    rw [hSa, hSb] at HZ
    clear hSa hSb
    go_wp2_with fail
    refine (start_own HZ.out.acc).mono ?_
    rintro e w20 ⟨rfl, ho⟩
    have HO20 := Lib.hid ho
    clear ho
    go_wp2_with fail
    refine (start_own HO20.out.acc2).mono ?_
    rintro e w21 ⟨rfl, ho⟩
    have HO21 := Lib.hid ho
    clear ho
    go_wp2_with fail
    refine (contents_acc n HO21.out.acc HPU.out.2.2.1 HPU.out.2.1.symm).mono ?_
    rintro e w22 ⟨b1, cc1, cur1, rfl, hst1, -, -, -, -, hlo1, hhi1, hb1⟩
    have HST1 := Lib.hid hst1
    have HO22 := Lib.hid (HO21.out.fresh hb1 hlo1 hhi1)
    clear hst1 hlo1 hhi1 hb1
    go_wp2_with fail
    refine (contents_acc n HO22.out.acc2 HPU.out.2.2.2.2 HPU.out.2.2.2.1.symm).mono ?_
    rintro e w23 ⟨b2, cc2, cur2, rfl, hst2, -, -, -, -, hlo2, hhi2, hb2⟩
    have HST2 := Lib.hid hst2
    have HO23 := Lib.hid (HO22.out.fresh hb2 hlo2 hhi2)
    have HST1' := Lib.hid (HO23.out.strs HST1.out (by simp))
    clear hst2 hlo2 hhi2 hb2
    have hsm := same_at n b1 b2 cc1 cc2 Sa.start.views Sb.start.views w23 HST1'.out HST2.out (by rw [views_length, HPU.out.2.1]) (by rw [views_length, HPU.out.2.2.2.1]) (by omega)
    rw [HPU.out.1, decide_eq_true (rfl : Sb.start.views = Sb.start.views)] at hsm
    have HSM := Lib.hid hsm
    clear hsm
    go_wp2_with fail
    refine HSM.out.mono ?_
    rintro e w24 ⟨rfl, hb24⟩
    have HB24 := Lib.hid (HO23.out.base.trans (hb24.mono HO23.out.base.size))
    clear hb24
    go_wp2
    go_ret
    exact ⟨rfl, HB24.out⟩
  · obtain ⟨Sa, hSa⟩ : ∃ X, S.setArm left wri byt0 = X := ⟨_, rfl⟩
    obtain ⟨Sb, hSb⟩ : ∃ X, S = X := ⟨_, rfl⟩
    have HPU : Hid (Sa.start.views = Sb.start.views ∧ Sa.start.n = n ∧ Sa.start.off = false ∧ Sb.start.n = n ∧ Sb.start.off = false) := Lib.hid (by
      rw [← hSa, ← hSb]
      exact ⟨(arm_start S HINV.out.on left wri byt0).1, (arm_start S HINV.out.on left wri byt0).2.1.trans HINV.out.n_, (arm_start S HINV.out.on left wri byt0).2.2, HINV.out.n_, rfl⟩)
    rw [hSa, hSb] at HZ
    clear hSa hSb
    go_wp2_with fail
    refine (start_own HZ.out.acc).mono ?_
    rintro e w20 ⟨rfl, ho⟩
    have HO20 := Lib.hid ho
    clear ho
    go_wp2_with fail
    refine (start_own HO20.out.acc2).mono ?_
    rintro e w21 ⟨rfl, ho⟩
    have HO21 := Lib.hid ho
    clear ho
    go_wp2_with fail
    refine (contents_acc n HO21.out.acc HPU.out.2.2.1 HPU.out.2.1.symm).mono ?_
    rintro e w22 ⟨b1, cc1, cur1, rfl, hst1, -, -, -, -, hlo1, hhi1, hb1⟩
    have HST1 := Lib.hid hst1
    have HO22 := Lib.hid (HO21.out.fresh hb1 hlo1 hhi1)
    clear hst1 hlo1 hhi1 hb1
    go_wp2_with fail
    refine (contents_acc n HO22.out.acc2 HPU.out.2.2.2.2 HPU.out.2.2.2.1.symm).mono ?_
    rintro e w23 ⟨b2, cc2, cur2, rfl, hst2, -, -, -, -, hlo2, hhi2, hb2⟩
    have HST2 := Lib.hid hst2
    have HO23 := Lib.hid (HO22.out.fresh hb2 hlo2 hhi2)
    have HST1' := Lib.hid (HO23.out.strs HST1.out (by simp))
    clear hst2 hlo2 hhi2 hb2
    have hsm := same_at n b1 b2 cc1 cc2 Sa.start.views Sb.start.views w23 HST1'.out HST2.out (by rw [views_length, HPU.out.2.1]) (by rw [views_length, HPU.out.2.2.2.1]) (by omega)
    rw [HPU.out.1, decide_eq_true (rfl : Sb.start.views = Sb.start.views)] at hsm
    have HSM := Lib.hid hsm
    clear hsm
    go_wp2_with fail
    refine HSM.out.mono ?_
    rintro e w24 ⟨rfl, hb24⟩
    have HB24 := Lib.hid (HO23.out.base.trans (hb24.mono HO23.out.base.size))
    clear hb24
    go_wp2
    go_ret
    exact ⟨rfl, HB24.out⟩

end Go.Proofs.Ytomcjohdenjljaa
