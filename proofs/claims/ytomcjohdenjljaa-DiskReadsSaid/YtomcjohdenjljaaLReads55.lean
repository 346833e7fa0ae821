/- The law DiskReads: the walk. -/
import Derived.Test.YtomcjohdenjljaaLB255
namespace Go.Proofs.Ytomcjohdenjljaa
open Go.RowKit

set_option maxRecDepth 100000 in
set_option maxHeartbeats 64000000 in
theorem reads_walk (r : UInt8) (A : Option Addr) (c : Nat) (l : List AC) (kind sec byt : Int) (tex : ByteArray) (od : Bool) (af : Int) (w : World) (hA : Acs w A l) (hl : l.length ≤ 9223372036854775807) (hfitl : fits l) :
    Calls Try.prog 6 #[.int .u8 r.toNat, .slice A l.length c, .agg #[.int .i64 kind, .int .i64 sec, .int .i64 byt, .string tex, .bool od, .int .i64 af]] w fun e w' => e = .returned (.bool true) ∧ Below w.heap.size w w' := by
  obtain ⟨W, hW⟩ : ∃ W, w.alloc (.cells #[.int .i64 kind, .int .i64 sec, .int .i64 byt, .string tex, .bool od, .int .i64 af] 34) = W := ⟨_, rfl⟩
  have hWs : W.heap.size = w.heap.size + 1 := by rw [← hW]; simp
  have hbW : Below w.heap.size w W := by rw [← hW]; exact below_alloc (Below.refl _ _) _
  have HX : Hid (∀ w', Below W.heap.size W w' → w'.cell? ⟨w.heap.size, 0, none⟩ = some (.int .i64 kind) ∧ w'.cell? ⟨w.heap.size, 1, none⟩ = some (.int .i64 sec) ∧ w'.cell? ⟨w.heap.size, 2, none⟩ = some (.int .i64 byt) ∧ w'.cell? ⟨w.heap.size, 3, none⟩ = some (.string tex) ∧ w'.cell? ⟨w.heap.size, 4, none⟩ = some (.bool od) ∧ w'.cell? ⟨w.heap.size, 5, none⟩ = some (.int .i64 af)) := by
    intro w' hb
    refine ⟨?_, ?_, ?_, ?_, ?_, ?_⟩ <;> exact kept_cell hb (by rw [← hW]; simp)
  have HAl : Hid (∀ w', Below W.heap.size W w' → Acs w' A l) := fun w' hb => hA.below (below_trans hbW hb)
  have HBW := Lib.hid hbW
  clear hA hbW
  obtain ⟨n, hn⟩ : ∃ n, nOf r = n := ⟨_, rfl⟩
  have hn1 := nOf_lo r
  have hn2 := nOf_hi r
  have hsize := size_nOf r
  rw [hn] at hn1 hn2 hsize
  have HSIZE := Lib.hid hsize
  clear hn hsize
  obtain ⟨rv, hrv⟩ : ∃ rv, r.toNat = rv := ⟨_, rfl⟩
  rw [hrv] at HSIZE ⊢
  clear hrv
  obtain ⟨vl, hv1⟩ : ∃ v, okB l = v := ⟨_, rfl⟩
  obtain ⟨v2, hv2⟩ : ∃ v, okB [⟨kind, sec, byt, tex, od, af⟩] = v := ⟨_, rfl⟩
  have HVl := Lib.hid hv1
  have HV2 := Lib.hid hv2
  clear hv1 hv2
  go_enter Try.func6, Try.ntmps6
  go_wp2_with fail
  refine (head_any _).mono ?_
  rintro e w0 ⟨rfl, hb1⟩
  obtain ⟨x0, x1, x2, x3, x4, x5⟩ := HX.out w0 hb1
  have hxl := lt_of_cell x0
  have HB0 := Lib.hid hb1
  clear hb1
  go_wp2_with fail
  have hok := ok_any A c l w0 (HAl.out w0 HB0.out) hl
  rw [HVl.out] at hok
  refine hok.mono ?_
  rintro e _ ⟨rfl, rfl⟩
  clear hok
  cases vl with
  | false =>
    go_wp2
    go_ret
    exact ⟨rfl, below_trans HBW.out HB0.out⟩
  | true =>
  go_wp2_with fail
  have hok2 := ok_any (some ⟨w0.heap.size, 0, none⟩) 1 [⟨kind, sec, byt, tex, od, af⟩] (w0.alloc (.cells #[.int .i64 kind, .int .i64 sec, .int .i64 byt, .string tex, .bool od, .int .i64 af] 34)) (Acs.one ⟨kind, sec, byt, tex, od, af⟩ (by simp) (by simp) (by simp) (by simp) (by simp) (by simp)) (by simp)
  rw [HV2.out] at hok2
  have hb2 : Below W.heap.size W (w0.alloc (.cells #[.int .i64 kind, .int .i64 sec, .int .i64 byt, .string tex, .bool od, .int .i64 af] 34)) := below_alloc HB0.out _
  refine hok2.mono ?_
  rintro e _ ⟨rfl, rfl⟩
  clear hok2
  obtain ⟨w1, hw2⟩ : ∃ w2, w0.alloc (.cells #[.int .i64 kind, .int .i64 sec, .int .i64 byt, .string tex, .bool od, .int .i64 af] 34) = w2 := ⟨_, rfl⟩
  rw [hw2] at hb2 ⊢
  have HB1 := Lib.hid hb2
  clear hb2 hw2
  clear x0 x1 x2 x3 x4 x5 hxl
  cases v2 with
  | false =>
    go_wp2
    go_ret
    exact ⟨rfl, below_trans HBW.out HB1.out⟩
  | true =>
  go_wp2_with fail
  refine (HSIZE.out _).mono ?_
  rintro e _ ⟨rfl, rfl⟩
  go_wp2_with fail
  refine (new_own W n hn1 (by omega) w1 HB1.out).mono ?_
  rintro e w3 ⟨d, rfl, ho⟩
  have HO := Lib.hid ho
  clear ho
  have HDO := Lib.hid (fun k a wr (hk : l[k]? = some a) (ho : Own W wr d (acts (DS.new n) (l.take k)) []) => do_step HVl.out hfitl n k a hk ho.acc)
  go_wp2_with fail
  go_loopw [10] (fun u wr => ∃ k : Nat, k ≤ l.length ∧ u = .int .i64 k ∧ Own W wr d (acts (DS.new n) (l.take k)) []) (fun u _ => l.length - (intOf u).toNat)
  case atStart => exact ⟨0, Nat.zero_le _, rfl, HO.out⟩
  case round =>
  obtain ⟨k, hk, rfl, ho⟩ := hrel
  have HOW := Lib.hid ho
  clear ho
  by_cases hlt : k < l.length
  · obtain ⟨a, ha⟩ := get_some l k hlt
    obtain ⟨b, off, rfl, c0, c1, c2, c3, c4, c5⟩ := (HAl.out _ HOW.out.base).at_ ha
    have HAK := Lib.hid ha
    clear ha
    go_wp2_with fail
    refine (HDO.out k a wr HAK.out HOW.out).mono ?_
    rintro e w4 ⟨⟨s4, c4, rfl⟩, ho4⟩
    have HO4 := Lib.hid ho4
    clear ho4
    go_wp2
    go_roundw
    case rel => exact ⟨k + 1, by omega, by go_num, HO4.out⟩
    case measure => simp [intOf]; omega
  obtain rfl : k = l.length := by omega
  go_wp2_with fail
  refine (start_own HOW.out.acc).mono ?_
  rintro e w5 ⟨rfl, ho5⟩
  have hS1 : ∃ S1, (acts (DS.new n) (l.take l.length)).start = S1 ∧ S1.on ∧ S1.n = n ∧ S1.q.length ≤ 60 := ⟨_, rfl, start_on _, acts_n _ _, acts_few n l.length l (okB_len HVl.out)⟩
  obtain ⟨S1, e1, hon1, hn1', hq1⟩ := hS1
  rw [e1] at ho5
  clear e1
  have HO5 := Lib.hid ho5
  have HON1 := Lib.hid hon1
  have HN1 := Lib.hid hn1'
  have HQ1 := Lib.hid hq1
  clear ho5 hon1 hn1' hq1 HOW
  go_wp2_with fail
  refine (contents_acc n HO5.out.acc HON1.out.1 HN1.out.symm).mono ?_
  rintro e w6 ⟨b1, cc1, cur1, rfl, hst, hbl, hcu, hcc, hcz, hlo, hhi, hb⟩
  have HST1 := Lib.hid hst
  have HBL1 := Lib.hid hbl
  have HCU1 := Lib.hid hcu
  have HCZ1 := Lib.hid hcz
  have HLO1 := Lib.hid hlo
  have HHI1 := Lib.hid hhi
  have HCC1 := Lib.hid hcc
  have HP1 := Lib.hid (HO5.out.fresh hb hlo hhi)
  clear hst hbl hcu hcc hcz hlo hhi hb
  obtain ⟨x0, x1, x2, x3, x4, x5⟩ := HX.out _ HP1.out.base
  have hxl := lt_of_cell x0
  have HD : Hid (∀ w', Below w6.drew.heap.size w6.drew w' → Own W w' d S1 [(b1, w6)]) := fun w' hb => HP1.out.below (below_trans (Below.drew (Below.refl _ _)) hb)
  have HXB := Lib.hid (fun w' (hb : Below w6.drew.heap.size w6.drew w') => HX.out w' (HP1.out.base.drew.trans (hb.mono HP1.out.base.size)))
  obtain ⟨tx, htx⟩ : ∃ tx, AC.txt ⟨kind, sec, byt, tex, od, af⟩ = tx := ⟨_, rfl⟩
  have HTX : Hid (∀ w, Calls Try.prog 24 #[.agg #[.int .i64 kind, .int .i64 sec, .int .i64 byt, .string tex, .bool od, .int .i64 af]] w fun e w' => e = .returned (.string tx) ∧ Below w.heap.size w w') := by
    intro w
    rw [← htx]
    exact act_text HV2.out 0 ⟨kind, sec, byt, tex, od, af⟩ rfl w
  obtain ⟨cv2, S2, hcs⟩ : ∃ cv S2, S1.write sec tx = (cv, S2) := ⟨_, _, rfl⟩
  have HWR : Hid (∀ w', Own W w' d S1 [(b1, w6)] → Calls Try.prog 23 #[.pointer (some ⟨d, 0, none⟩), .int .i64 sec, .string tx] w' fun e w'' => e = .returned (.int .i64 cv2) ∧ Own W w'' d S2 [(b1, w6)]) := by
    intro w' hw
    have := write_own sec tx hw.acc (by have := HQ1.out; omega)
    rw [hcs] at this
    exact this
  have HCS := Lib.hid hcs
  clear htx hcs
  go_wp2_with fail
  go_region_held3 (fun w' => w'.cell? ⟨w.heap.size, 0, none⟩ = some (.int .i64 kind) ∧ w'.cell? ⟨w.heap.size, 1, none⟩ = some (.int .i64 sec) ∧ w'.cell? ⟨w.heap.size, 2, none⟩ = some (.int .i64 byt) ∧ w'.cell? ⟨w.heap.size, 3, none⟩ = some (.string tex) ∧ w'.cell? ⟨w.heap.size, 4, none⟩ = some (.bool od) ∧ w'.cell? ⟨w.heap.size, 5, none⟩ = some (.int .i64 af))
    (first
      | go_keep
      | (go_split_ands
         exact HXB.out _ hbt)
      | (go_split_ands
         exact HX.out _ hto.base))
    (first
      | (go_at_call 24; refine (HTX.out _).mono ?_; rintro e wt ⟨rfl, hbt⟩)
      | (go_at_call 23; refine (HWR.out _ (HD.out _ hbt)).mono ?_; rintro e wv ⟨rfl, hto⟩))
  all_goals
    obtain ⟨hraw2, hon2, hn2'⟩ := (by have := write_raw S1 HON1.out sec tx; rw [HCS.out] at this; exact this : S2.raw = S1.raw ∧ S2.on ∧ S2.n = S1.n)
    have HON2 := Lib.hid hon2
    have HN2 : Hid (S2.n = n) := Lib.hid (hn2'.trans HN1.out)
    have HO7 := Lib.hid hto
    clear hraw2 hon2 hn2' hto
    go_wp2_with fail
    refine (contents_acc n HO7.out.acc HON2.out.1 HN2.out.symm).mono ?_
    rintro e w8 ⟨b2, cc2, cur2, rfl, hst, hbl, hcu, hcc, hcz, hlo, hhi, hb⟩
    have HST2 := Lib.hid hst
    have HBL2 := Lib.hid hbl
    have HCU2 := Lib.hid hcu
    have HCZ2 := Lib.hid hcz
    have HLO2 := Lib.hid hlo
    have HHI2 := Lib.hid hhi
    have HCC2 := Lib.hid hcc
    have HP2 := Lib.hid (HO7.out.fresh hb hlo hhi)
    clear hst hbl hcu hcc hcz hlo hhi hb
    go_wp2_with fail
    refine (contents_acc n HP2.out.acc HON2.out.1 HN2.out.symm).mono ?_
    rintro e w9 ⟨b3, cc3, cur3, rfl, hst, hbl, hcu, hcc, hcz, hlo, hhi, hb⟩
    have HST3 := Lib.hid hst
    have HBL3 := Lib.hid hbl
    have HCU3 := Lib.hid hcu
    have HCZ3 := Lib.hid hcz
    have HLO3 := Lib.hid hlo
    have HHI3 := Lib.hid hhi
    have HCC3 := Lib.hid hcc
    have HP3 := Lib.hid (HP2.out.fresh hb hlo hhi)
    clear hst hbl hcu hcc hcz hlo hhi hb
    have hsm := same_at n b2 b3 cc2 cc3 S2.views S2.views w9 (HP3.out.strs HST2.out (by simp)) HST3.out (by rw [views_length, HN2.out]) (by rw [views_length, HN2.out]) (by omega)
    rw [decide_eq_true (rfl : S2.views = S2.views)] at hsm
    have HSM := Lib.hid hsm
    clear hsm
    go_wp2_with fail
    refine HSM.out.mono ?_
    rintro e w10 ⟨rfl, hb10⟩
    have HO10 := Lib.hid (HP3.out.below hb10)
    clear hb10 HSM x0 x1 x2 x3 x4 x5 hxl
    rcases write_on S1 HON1.out sec tx with ⟨⟨h1, h2, h3⟩, h4⟩ | ⟨h1, h2⟩
    · rw [HCS.out] at h4
      simp only [Prod.mk.injEq] at h4
      obtain ⟨rfl, h4⟩ := h4
      obtain ⟨s, rfl⟩ : ∃ s : Nat, sec = s := ⟨sec.toNat, by omega⟩
      have hvs : S2.views = S1.views.set s tx := by
        rw [h4]; exact views_wrote S1 s tx (by omega)
      have h2' : (s : Int) < (n : Int) := by rw [← HN1.out]; exact h2
      have HVS := Lib.hid hvs
      clear hvs h4 h2 h3
      obtain ⟨x0, x1, x2, x3, x4, x5⟩ := HX.out _ HO10.out.base
      have hxl := lt_of_cell x0
      have hl1 : S1.views.length = n := by rw [views_length, HN1.out]
      obtain ⟨sv, hsv⟩ := get_some S1.views s (by omega)
      have HL1 := Lib.hid hl1
      have HXB2 := Lib.hid (fun w' (hb : Below w10.drew.heap.size w10.drew w') => HX.out w' (HO10.out.base.drew.trans (hb.mono HO10.out.base.size)))
      have HD2 : Hid (∀ w', Below w10.drew.heap.size w10.drew w' → Own W w' d S2 [(b1, w6), (b2, w8)]) := fun w' hb => (HO10.out.below (below_trans (Below.drew (Below.refl _ _)) hb)).sub (by simp)
      have hne1 : w.heap.size ≠ b1 := by
        have h5 := HLO1.out
        have h6 := HO5.out.base.size
        omega
      have HBK : Hid (∀ w', Below w10.drew.heap.size w10.drew w' → Blk w' b1 9 cur1) := fun w' hb => (HD2.out w' hb).blk (List.mem_cons_self) HBL1.out
      have HCK : Hid (∀ w', Below w10.drew.heap.size w10.drew w' → w'.cell? ⟨b1, s, none⟩ = some (.string sv)) := fun w' hb => by
        rw [(HBK.out w' hb).cell s]
        have h5 : (cur1.toList.take n)[s]? = (S1.views.map Value.string)[s]? := by rw [HCU1.out]
        rw [List.getElem?_take, if_pos (by omega), Array.getElem?_toList, List.getElem?_map, hsv] at h5
        exact h5
      have HFK : Hid (∀ w', Below w10.drew.heap.size w10.drew w' → w'.frozen? ⟨b1, s, none⟩ = false) := fun w' hb => (HBK.out w' hb).frozen s
      have HXS := Lib.hid (fun w' (hb : Below w10.drew.heap.size w10.drew w') (u : Value) => (by
        obtain ⟨y0, y1, y2, y3, y4, y5⟩ := HXB2.out w' hb
        have hk : ∀ j v, w'.cell? ⟨w.heap.size, j, none⟩ = some v → (w'.setCell ⟨b1, s, none⟩ u).cell? ⟨w.heap.size, j, none⟩ = some v := fun j v hv => (World.cell?_setCell_other w' ⟨b1, s, none⟩ ⟨w.heap.size, j, none⟩ u (fun e => hne1 (by injection e with e; exact e.symm))).trans hv
        exact ⟨hk _ _ y0, hk _ _ y1, hk _ _ y2, hk _ _ y3, hk _ _ y4, hk _ _ y5⟩ : (w'.setCell ⟨b1, s, none⟩ u).cell? ⟨w.heap.size, 0, none⟩ = some (.int .i64 kind) ∧ (w'.setCell ⟨b1, s, none⟩ u).cell? ⟨w.heap.size, 1, none⟩ = some (.int .i64 (s : Int)) ∧ (w'.setCell ⟨b1, s, none⟩ u).cell? ⟨w.heap.size, 2, none⟩ = some (.int .i64 byt) ∧ (w'.setCell ⟨b1, s, none⟩ u).cell? ⟨w.heap.size, 3, none⟩ = some (.string tex) ∧ (w'.setCell ⟨b1, s, none⟩ u).cell? ⟨w.heap.size, 4, none⟩ = some (.bool od) ∧ (w'.setCell ⟨b1, s, none⟩ u).cell? ⟨w.heap.size, 5, none⟩ = some (.int .i64 af)))
      have HNE := Lib.hid hne1
      clear hsv hl1 hne1
      go_wp2_with fail
      go_region_held3 (fun w' => w'.cell? ⟨w.heap.size, 0, none⟩ = some (.int .i64 kind) ∧ w'.cell? ⟨w.heap.size, 1, none⟩ = some (.int .i64 (s : Int)) ∧ w'.cell? ⟨w.heap.size, 2, none⟩ = some (.int .i64 byt) ∧ w'.cell? ⟨w.heap.size, 3, none⟩ = some (.string tex) ∧ w'.cell? ⟨w.heap.size, 4, none⟩ = some (.bool od) ∧ w'.cell? ⟨w.heap.size, 5, none⟩ = some (.int .i64 af))
        (first
          | (go_split_ands
             exact HXB2.out _ hbt2)
          | (go_split_ands
             exact HXS.out _ hbt2 _)
          | go_keep)
        (first
          | (go_at_call 24; refine (HTX.out _).mono ?_; rintro e wq ⟨rfl, hbt2⟩; have hcw := HCK.out _ hbt2; have hfw := HFK.out _ hbt2))
      all_goals
        have HO11 := Lib.hid ((HD2.out _ hbt2).store (b := b1) (fun p hp => by
          rcases List.mem_singleton.1 hp with rfl
          have h5 := HO7.out.lt
          have h6 := HLO2.out
          simp only
          omega) s (.string tx))
        have hz1 : n ≤ cur1.size := by rw [HCZ1.out]; exact HCC1.out
        have hsn : s < n := by omega
        have HST1' := Lib.hid (strs_set (cur := cur1) ((HD2.out _ hbt2).blk (List.mem_cons_self) HBL1.out) HCU1.out HL1.out hsn hz1 tx)
        clear x0 x1 x2 x3 x4 x5 hxl hcw hfw
        have hsm := same_at n b1 b2 cc1 cc2 (S1.views.set s tx) S2.views (wq.setCell ⟨b1, s, none⟩ (.string tx)) HST1'.out (HO11.out.strs HST2.out (by simp)) (by rw [List.length_set, HL1.out]) (by rw [views_length, HN2.out]) (by omega)
        rw [HVS.out, decide_eq_true (rfl : S1.views.set s tx = S1.views.set s tx)] at hsm
        have HSM := Lib.hid hsm
        clear hsm hbt2
        go_wp2_with fail
        refine HSM.out.mono ?_
        rintro e w11 ⟨rfl, hb11⟩
        have HO12 := Lib.hid (HO11.out.below hb11)
        clear hb11 HSM
        have HQ2 : Hid ((S2.fail 0 0).q.length < 1000000) := Lib.hid (by
          have h5 := fail_q S2 0 0
          have h6 := write_q S1 s tx
          rw [HCS.out] at h6
          have h7 := HQ1.out
          simp only at h6
          omega)
        have HW3 := Lib.hid (write_off (S2.fail 0 0) (fail_off_ S2 0 0) 0 fa)
        have HR3 := Lib.hid (read_off (S2.fail 0 0) (fail_off_ S2 0 0) 0)
        go_wp2_with fail
        refine (fail_own 0 0 HO12.out.acc).mono ?_
        rintro e w13 ⟨rfl, ho⟩
        have HO13 := Lib.hid ho
        clear ho
        go_wp2_with fail
        refine (fill_a _).mono ?_
        rintro e w14 ⟨rfl, hb14⟩
        have HO14 := Lib.hid (HO13.out.below hb14)
        clear hb14
        go_wp2_with fail
        refine (write_own 0 fa HO14.out.acc HQ2.out).mono ?_
        rw [HW3.out]
        rintro e w15 ⟨rfl, ho⟩
        have HO15 := Lib.hid ho
        clear ho
        go_wp2_with fail
        refine (read_own 0 HO15.out.acc).mono ?_
        rw [HR3.out]
        rintro e w16 ⟨rfl, ho⟩
        have HO16 := Lib.hid ho
        clear ho
        go_wp2
        go_ret
        exact ⟨rfl, below_trans HBW.out HO16.out.base⟩
    · rw [HCS.out] at h2
      simp only [Prod.mk.injEq] at h2
      obtain ⟨rfl, h3⟩ := h2
      subst h3
      have hsm := same_at n b1 b2 cc1 cc2 S2.views S2.views w10 (HO10.out.strs HST1.out (by simp)) (HO10.out.strs HST2.out (by simp)) (by rw [views_length, HN2.out]) (by rw [views_length, HN2.out]) (by omega)
      rw [decide_eq_true (rfl : S2.views = S2.views)] at hsm
      have HSM := Lib.hid hsm
      have H1 := Lib.hid h1
      clear hsm h1
      by_cases c1 : sec < 0
      · go_wp2_with fail
        refine HSM.out.mono ?_
        rintro e w11 ⟨rfl, hb11⟩
        have HO11 := Lib.hid (HO10.out.below hb11)
        clear hb11 HSM
        obtain ⟨x0, x1, x2, x3, x4, x5⟩ := HX.out _ HO11.out.base
        go_wp2
        go_ret
        exact ⟨rfl, below_trans HBW.out HO11.out.base⟩
      by_cases c2 : (n : Int) ≤ sec
      · go_wp2_with fail
        refine HSM.out.mono ?_
        rintro e w11 ⟨rfl, hb11⟩
        have HO11 := Lib.hid (HO10.out.below hb11)
        clear hb11 HSM
        obtain ⟨x0, x1, x2, x3, x4, x5⟩ := HX.out _ HO11.out.base
        go_wp2
        go_ret
        exact ⟨rfl, below_trans HBW.out HO11.out.base⟩
      · have c3 : ¬ tx.size = 64 := fun e => H1.out ⟨by omega, by rw [HN2.out]; omega, e⟩
        have e1 : ((tx.size : Int) == 64) = false := by simp; omega
        have e2 : ((tx.size : Int) != 64) = true := by simp; omega
        clear c3
        go_wp2_with fail
        refine HSM.out.mono ?_
        rintro e w11 ⟨rfl, hb11⟩
        have HO11 := Lib.hid (HO10.out.below hb11)
        clear hb11 HSM
        obtain ⟨x0, x1, x2, x3, x4, x5⟩ := HX.out _ HO11.out.base
        go_wp2_with fail
        refine (HTX.out _).mono ?_
        rintro e w12 ⟨rfl, hb12⟩
        have HO12 := Lib.hid (HO11.out.below hb12)
        clear hb12
        go_wp2
        go_ret
        exact ⟨rfl, below_trans HBW.out HO12.out.base⟩

end Go.Proofs.Ytomcjohdenjljaa
