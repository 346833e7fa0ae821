/- Contracts of the reference's disk: Fail, count, Sync. -/
import Derived.Test.YtdbmimmfpglahaaRDiskOps
namespace Go.Proofs.Ytdbmimmfpglahaa
open Go.RowKit

theorem RDkTo.off_end {w w1 : World} {d sb c n : Nat} {st : List UInt8} {v1 v2 v3 qv : Value} {x y z : Int} (hc : Chg (rfoot d sb qv) w w1) (hh : Blk w1 d 52 #[.slice (some ⟨sb, 0, none⟩) n c, v1, v2, v3, .int .i64 x, .int .i64 y, .int .i64 z]) (hs : RSt w1 sb n st)
    (h1 : 1 ≤ n) (h40 : n ≤ 4000) (hl : st.length = n * 64) :
    RDkTo w (((w1.setCell ⟨d, 1, none⟩ (.slice none 0 0)).setCell ⟨d, 2, none⟩ (.bool false)).setCell ⟨d, 3, none⟩ (.bool false)) d (rfoot d sb qv) { n := n, st := st, q := [], off := true, arm := none } := by
  have hd : d ∈ rfoot d sb qv := by simp [rfoot]
  have hne : sb ≠ d := fun e => hs.ne_ hh (by decide) e.symm
  have g := ((hh.set 1 (.slice none 0 0)).set 2 (.bool false)).set 3 (.bool false)
  simp at g
  refine ⟨_, ⟨sb, c, .slice none 0 0, x, y, z, ⟨by simpa using g, ((hs.far hne _).far hne _).far hne _, ⟨rfl, .inl ⟨rfl, rfl⟩⟩, by simp, ⟨h1, h40, hl, by simp, by simp, by simp⟩⟩, rfl⟩, fun k hk => ?_, ((hc.setCell (p := ⟨d, 1, none⟩) (.inl hd) _).setCell (p := ⟨d, 2, none⟩) (.inl hd) _).setCell (p := ⟨d, 3, none⟩) (.inl hd) _⟩
  simp [rfoot, Value.ownBlock] at hk
  left
  rcases hk with rfl | rfl <;> simp [rfoot]

set_option maxHeartbeats 8000000 in
theorem rfail_any (d : Nat) (S : DS) (F : List Nat) (writes bytes : Int) (w : World) (h : RDk w d S F) :
    Calls Try.prog 25 #[ptr d, .int .i64 writes, .int .i64 bytes] w fun e w' => e = .returned (.tuple #[]) ∧ RDkTo w w' d F (S.fail writes bytes) := by
  have HD := Lib.hid h
  obtain ⟨sb, c, qv, x, y, z, hk, rfl⟩ := h
  have HK := Lib.hid hk; clear hk
  have h0 := HK.out.c0
  have h1 := HK.out.c1
  have h2 := HK.out.c2
  have hl := lt_of_cell h0
  have g1 := HK.out.good.n1
  have g40 := HK.out.good.n4000
  have gl := HK.out.good.len
  have gf := HK.out.good.few
  cases hoff : S.off with
  | true =>
    rw [hoff] at h2
    simp only [Bool.not_true] at h2
    have he : S.fail writes bytes = S := by simp [DS.fail, hoff]
    rw [he]
    unfold ptr
    go_enter Try.func25, Try.ntmps25
    go_wp2
    refine bodyPost_ret (results_none rfl _ _ _) rfl ?_
    exact ⟨rfl, RDkTo.of_chg HD.out (Below.refl _ _)⟩
  | false =>
    rw [hoff] at h2
    simp only [Bool.not_false] at h2
    obtain ⟨A, c2, rfl, hc1, hc2, hrd⟩ := Rd.of_own HK.out.queue
    have HQ : Hid (RQs w A S.q) := hrd
    unfold ptr
    obtain ⟨M, hM⟩ : ∃ M, (if (S.q.length : Int) < writes then (S.q.length : Int) else writes) = M := ⟨_, rfl⟩
    obtain ⟨m, hm, hml⟩ : ∃ m : Nat, (if 0 < M then M else 0) = (m : Int) ∧ m ≤ S.q.length := by
      refine ⟨(if 0 < M then M else 0).toNat, ?_, ?_⟩
      · split at hM <;> split <;> omega
      · split at hM <;> split <;> omega
    obtain ⟨B, hB⟩ : ∃ B, (if (64 : Int) < bytes then 64 else bytes) = B := ⟨_, rfl⟩
    obtain ⟨k, hk, hk64⟩ : ∃ k : Nat, (if 0 < B then B else 0) = (k : Int) ∧ k ≤ 64 := by
      refine ⟨(if 0 < B then B else 0).toNat, ?_, ?_⟩
      · split at hB <;> split <;> omega
      · split at hB <;> split <;> omega
    have hmd : min (max writes 0).toNat S.q.length = m := by split at hM <;> split at hm <;> omega
    have hkd : (min (max bytes 0) 64).toNat = k := by split at hB <;> split at hk <;> omega
    obtain ⟨st1, hst1⟩ : ∃ st1, settle S.st (S.q.take m) = st1 := ⟨_, rfl⟩
    have hst1l : st1.length = S.n * 64 := by rw [← hst1]; exact settle_length S.n _ _ gl (fun p hp => HK.out.good.inq p (List.mem_of_mem_take hp))
    have he : S.fail writes bytes = { n := S.n, st := torn st1 S.q[m]? k, q := [], off := true, arm := none } := by
      simp only [DS.fail, hoff, hmd, hkd, hst1]; rfl
    rw [he]
    obtain ⟨stf, hstf⟩ : ∃ stf, torn st1 S.q[m]? k = stf := ⟨_, rfl⟩
    rw [hstf]
    have HSTF := Lib.hid hstf
    clear hstf
    obtain ⟨a1, a2, a3⟩ := HK.out.apart
    have hAsb : ∀ a, A = some a → a.block ∉ [sb] := by
      rintro a rfl hm
      rw [List.mem_singleton] at hm
      exact a3 (by simp [Value.ownBlock, hm])
    have hdsb : d ∉ [sb] := by simpa using a1
    have HSET := Lib.hid (rsettle_any d S.n sb c S.st A c2 S.q m w h0 h1 HK.out.stab gl g40 HK.out.good.inq HQ.out hAsb hdsb gf hml)
    rw [hst1] at HSET
    unfold ptr at HSET
    have HM := Lib.hid hmd
    have HKD := Lib.hid hkd
    have HASB := Lib.hid hAsb
    have HST1 := Lib.hid hst1l
    clear he hmd hkd hst1 a1 a2 a3 hrd gl hAsb hst1l
    have hchgF : ∀ j, j ∈ [sb] → j ∈ rfoot d sb (.slice A S.q.length c2) ∨ w.heap.size ≤ j := by
      intro j hj
      rw [List.mem_singleton] at hj
      left; simp [rfoot, hj]
    have HCF := Lib.hid hchgF
    clear hchgF
    go_enter Try.func25, Try.ntmps25
    go_wp2_with fail
    refine HSET.out.mono ?_
    rintro e w1 ⟨rfl, hc1', hb1'⟩
    have HC1 := Lib.hid hc1'
    have HB1 := Lib.hid hb1'
    have HH1 := Lib.hid (HK.out.head.chg hc1' hdsb)
    clear hc1' hb1'
    clear h0 h1 h2
    have h0 := HH1.out.cell 0
    have h1 : w1.cell? ⟨d, 1, none⟩ = some (.slice A S.q.length c2) := HH1.out.cell 1
    have h2 := HH1.out.cell 2
    have h3 := HH1.out.cell 3
    have f1 := HH1.out.frozen 1
    have f2 := HH1.out.frozen 2
    have f3 := HH1.out.frozen 3
    by_cases hmq : m < S.q.length
    · obtain ⟨p, hp⟩ := get_some S.q m hmq
      obtain ⟨b, off, rfl, c1, c3⟩ := (HQ.out.chg HC1.out HASB.out).at_ hp
      have c1l := lt_of_cell c1
      have hdl1 : d < w1.heap.size := HH1.out.lt
      obtain ⟨q1, q2⟩ := HK.out.good.inq p (List.mem_of_getElem? hp)
      have HP := Lib.hid hp; clear hp
      by_cases hk0 : 0 < k
      · obtain rfl : B = (k : Int) := by split at hk <;> omega
        have c5 := HB1.out.cell p.1 q1
        have c5l := lt_of_cell c5
        have hsz := secB_size S.n st1 p.1 HST1.out q1
        have htorn := sects_torn S.n st1 p.1 k p.2 HST1.out q1 q2 hk64
        generalize secB st1 p.1 = v at c5 hsz htorn
        obtain ⟨u, hu⟩ : ∃ u, p.2.extract 0 k ++ v.extract k 64 = u := ⟨_, rfl⟩
        have HU := Lib.hid hu
        clear hu
        rw [HU.out] at htorn
        have HTORN := Lib.hid htorn
        clear htorn
        have HS2 := Lib.hid (rset_any d sb S.n c p.1 st1 u ((w1.alloc (.cells #[.int .i64 (p.1 : Int), .string p.2] 61)).drew) (((HH1.out.alloc _).drew).cell 0) ((HB1.out.alloc _).drew) q1 g40)
        unfold ptr at HS2
        have hsv : (0 : Int) ≤ (k : Int) := by omega
        have hsw : (k : Int) ≤ (v.size : Int) := by omega
        have hsx : (k : Int) ≤ 64 := by omega
        go_wp2_with fail
        refine wp_region_still_tail 18 (by kernel_rfl) (by kernel_rfl) ?_
        simp only [List.take_succ_cons, List.take_zero, List.drop_succ_cons, List.drop_zero]
        change wpStill _ _ (World.drew _) _ _ _
        repeat still_step
        refine wpStill_nil ?_
        change wpList _ _ _ _ _ (World.drew _)
        go_wp2_with fail
        rw [HU.out]
        refine HS2.out.mono ?_
        rintro e w2 ⟨rfl, hc2', hb2'⟩
        have hst : put st1 p.1 (p.2.data.toList.take k) = stf := by
          have := HSTF.out
          rw [HP.out] at this
          exact this
        have hb3 := hb2' _ HTORN.out
        rw [hst] at hb3
        have HSL : Hid (stf.length = S.n * 64) := by
          show stf.length = S.n * 64
          rw [← hst, put_length _ _ _ (by have := HST1.out; rw [List.length_take, ba_len]; omega)]
          exact HST1.out
        clear hst
        have HH2 := Lib.hid (((HH1.out.alloc _).drew).chg hc2' hdsb)
        have HCC := Lib.hid (((((Chg.refl _ _).trans HC1.out HCF.out).alloc _).drew).trans hc2' HCF.out)
        have HB2 := Lib.hid hb3
        clear hc2' hb2' hb3 h0 h1 h2 h3 f1 f2 f3 c1 c3 c5
        have h1 := HH2.out.cell 1
        have h2 := HH2.out.cell 2
        have h3 := HH2.out.cell 3
        have f1 := HH2.out.frozen 1
        have f2 := HH2.out.frozen 2
        have f3 := HH2.out.frozen 3
        go_wp2
        go_end0
        exact ⟨rfl, RDkTo.off_end HCC.out HH2.out HB2.out g1 g40 HSL.out⟩
      · have hk00 : k = 0 := by omega
        have hst : st1 = stf := by
          have := HSTF.out
          rw [HP.out, hk00] at this
          simpa [torn, put] using this
        rw [hst] at HB1 HST1
        clear hst
        go_wp2
        go_end0
        exact ⟨rfl, (RDkTo.off_end ((Chg.refl _ _).trans HC1.out HCF.out) HH1.out HB1.out g1 g40 HST1.out).chg (below_alloc (Below.refl _ _) _)⟩
    · have hst : st1 = stf := by
        have := HSTF.out
        rw [List.getElem?_eq_none (by omega)] at this
        exact this
      rw [hst] at HB1 HST1
      clear hst
      go_wp2
      go_end0
      exact ⟨rfl, RDkTo.off_end ((Chg.refl _ _).trans HC1.out HCF.out) HH1.out HB1.out g1 g40 HST1.out⟩

theorem RDk.drew {w : World} {d : Nat} {S : DS} {F : List Nat} (h : RDk w d S F) : RDk w.drew d S F := h.chg (F2 := []) (Chg.refl [] w).drew (by simp)
theorem RDkTo.of_drew {w w' : World} {d : Nat} {S : DS} {F : List Nat} (h : RDkTo w.drew w' d F S) : RDkTo w w' d F S := by
  obtain ⟨F', h1, h2, h3⟩ := h
  exact ⟨F', h1, h2, h3.of_drew⟩

set_option maxHeartbeats 1600000 in
theorem rcount_any (d : Nat) (S : DS) (F : List Nat) (w : World) (h : RDk w d S F) :
    Calls Try.prog 35 #[ptr d] w fun e w' => e = .returned (.int .i64 S.count.1) ∧ RDkTo w w' d F S.count.2 := by
  have HD := Lib.hid h
  obtain ⟨sb, c, qv, x, y, z, hk, rfl⟩ := h
  have HK := Lib.hid hk
  have h3 := hk.c3
  have h4 := hk.c4
  have h5 := hk.c5
  have h6 := hk.c6
  have f4 := hk.head.frozen 4
  have hl := lt_of_cell h3
  have ha := hk.armed
  clear hk
  cases harm : S.arm with
  | none =>
    have he : S.count = (0, S) := by simp [DS.count, harm]
    rw [he]
    rw [harm] at h3
    simp only [Option.isSome_none] at h3
    unfold ptr
    go_enter Try.func35, Try.ntmps35
    go_wp2
    go_ret
    exact ⟨rfl, RDkTo.of_chg HD.out (Below.refl _ _)⟩
  | some a =>
    obtain rfl := ha a harm
    rw [harm] at h3
    simp only [Option.isSome_some] at h3
    have hr := HK.out.good.arm0 _ harm
    simp at hr
    by_cases h0 : 0 < x
    · have he : S.count = (0, { S with arm := some (x - 1, y, z) }) := by simp [DS.count, harm, h0]
      rw [he]
      have hx0 : ¬ x = 0 := by omega
      unfold ptr
      go_enter Try.func35, Try.ntmps35
      go_wp2
      go_ret
      have hd : d ∈ rfoot d sb qv := by simp [rfoot]
      have hc := (Chg.refl (rfoot d sb qv) w).setCell (p := ⟨d, 4, none⟩) (.inl hd) (.int .i64 (x - 1))
      have hc0 := (Chg.refl [d] w).setCell (p := ⟨d, 4, none⟩) (.inl (by simp)) (.int .i64 (x - 1))
      obtain ⟨g1, g2⟩ := HK.out.own_d hc0
      have g3 := HK.out.head.set 4 (.int .i64 (x - 1))
      simp [harm] at g3
      refine ⟨rfl, RDkTo.same (c := c) (x' := x - 1) (y' := y) (z' := z) ⟨?_, g1, g2, fun u hu => (Option.some.inj hu).symm, ⟨HK.out.good.n1, HK.out.good.n4000, HK.out.good.len, HK.out.good.inq, HK.out.good.few, fun u hu => ?_⟩⟩ hc⟩
      · simpa using g3
      · obtain rfl : (x - 1, y, z) = u := Option.some.inj hu
        simp; omega
    · have he : S.count = (28, S.fail y z) := by simp [DS.count, harm, h0]
      rw [he]
      have hx0 : x = 0 := by omega
      subst hx0
      have HF := Lib.hid (rfail_any d S _ y z w.drew HD.out.drew)
      unfold ptr at HF ⊢
      go_enter Try.func35, Try.ntmps35
      go_wp2_with fail
      refine wp_region_still_tail 9 (by kernel_rfl) (by kernel_rfl) ?_
      simp only [List.take_succ_cons, List.take_zero, List.drop_succ_cons, List.drop_zero]
      change wpStill _ _ (World.drew _) _ _ _
      repeat still_step
      refine wpStill_nil ?_
      change wpList _ _ _ _ _ (World.drew _)
      go_wp2_with fail
      refine HF.out.mono ?_
      rintro e w2 ⟨rfl, hto⟩
      go_wp2
      go_ret
      exact ⟨rfl, hto.of_drew⟩

set_option maxHeartbeats 1600000 in
theorem rsync_any (d : Nat) (S : DS) (F : List Nat) (w : World) (h : RDk w d S F) :
    Calls Try.prog 24 #[ptr d] w fun e w' => e = .returned (.int .i64 S.sync.1) ∧ RDkTo w w' d F S.sync.2 := by
  have HD := Lib.hid h
  cases hoff : S.off with
  | true =>
    have he : S.sync = (28, S) := by simp [DS.sync, hoff]
    rw [he]
    obtain ⟨sb, c, qv, x, y, z, hk, rfl⟩ := h
    have h2 := hk.c2
    rw [hoff] at h2
    simp only [Bool.not_true] at h2
    clear hk
    unfold ptr
    go_enter Try.func24, Try.ntmps24
    go_wp2
    go_ret
    exact ⟨rfl, RDkTo.of_chg HD.out (Below.refl _ _)⟩
  | false =>
    have HC := Lib.hid (rcount_any d S F w h)
    obtain ⟨sb, c, qv, x, y, z, hk, rfl⟩ := h
    have h2 := hk.c2
    rw [hoff] at h2
    simp only [Bool.not_false] at h2
    clear hk
    by_cases h0 : S.count.1 = 0
    · have he : S.sync = (0, { S.count.2 with st := settle S.count.2.st S.count.2.q, q := [] }) := by simp [DS.sync, hoff, h0]
      rw [he]
      rw [h0] at HC
      unfold ptr at HC ⊢
      go_enter Try.func24, Try.ntmps24
      go_wp2_with fail
      refine HC.out.mono ?_
      rintro e w1 ⟨rfl, F1, ⟨sb1, cc1, qv1, x1, y1, z1, hk1, rfl⟩, hF1, hc1⟩
      obtain ⟨S1, hS1⟩ : ∃ S1, S.count.2 = S1 := ⟨_, rfl⟩
      rw [hS1] at hk1
      obtain ⟨A, c, rfl, hcc1, hcc2, hrd⟩ := Rd.of_own hk1.queue
      have hQ : RQs w1 A S1.q := hrd
      obtain ⟨a1, a2, a3⟩ := hk1.apart
      have hAsb : ∀ a, A = some a → a.block ∉ [sb1] := by
        rintro a rfl hm
        rw [List.mem_singleton] at hm
        exact a3 (by simp [Value.ownBlock, hm])
      have hset := rsettle_any d S1.n sb1 cc1 S1.st A c S1.q S1.q.length w1 hk1.c0 hk1.c1 hk1.stab hk1.good.len hk1.good.n4000 hk1.good.inq hQ hAsb (by simpa using a1) hk1.good.few (Nat.le_refl _)
      rw [List.take_length] at hset
      have HSET := Lib.hid hset
      unfold ptr at HSET
      have c1 := hk1.c1
      have HK1 := Lib.hid hk1
      have HF1 := Lib.hid hF1
      have HC1 := Lib.hid hc1
      have HS1 := Lib.hid hS1
      have HA := Lib.hid a1; have HA2 := Lib.hid a2
      clear hk1 hF1 hc1 hS1 hset hrd hQ a1 a2 a3 hAsb h0 he h2
      go_wp2_with fail
      refine HSET.out.mono ?_
      rintro e w2 ⟨rfl, hc2, hb2⟩
      have hH2 := HK1.out.head.chg hc2 (by simpa using HA.out)
      have c2 := hH2.cell 1
      have f2 := hH2.frozen 1
      have HH2 := Lib.hid hH2
      have HC2 := Lib.hid hc2
      have HB2 := Lib.hid hb2
      clear hH2 hc2 hb2 c1
      go_wp2
      go_ret
      rw [HS1.out]
      have hd : d ∈ rfoot d sb1 (.slice A S1.q.length c) := by simp [rfoot]
      have hsb : sb1 ∈ rfoot d sb1 (.slice A S1.q.length c) := by simp [rfoot]
      have hcc : Chg (rfoot d sb1 (.slice A S1.q.length c)) w1 (w2.setCell ⟨d, 1, none⟩ (.slice none 0 0)) := ((Chg.refl _ w1).trans HC2.out (fun j hj => by rw [List.mem_singleton] at hj; left; rw [hj]; exact hsb)).setCell (p := ⟨d, 1, none⟩) (.inl hd) _
      have hne : sb1 ≠ d := fun e => HA.out e.symm
      have g3 := HH2.out.set 1 (.slice none 0 0)
      simp at g3
      have hk2 : RDkAt (w2.setCell ⟨d, 1, none⟩ (.slice none 0 0)) d { S1 with st := settle S1.st S1.q, q := [] } sb1 cc1 (.slice none 0 0) x1 y1 z1 :=
        ⟨by simpa using g3, HB2.out.far hne _, ⟨rfl, .inl ⟨rfl, rfl⟩⟩, HK1.out.armed, ⟨HK1.out.good.n1, HK1.out.good.n4000, settle_length _ _ _ HK1.out.good.len HK1.out.good.inq, by simp, by simp, HK1.out.good.arm0⟩⟩
      refine ⟨rfl, _, ⟨sb1, _, _, _, _, _, hk2, rfl⟩, fun k hk => ?_, HC1.out.trans hcc HF1.out⟩
      refine HF1.out k ?_
      simp only [rfoot, List.mem_append, List.mem_cons, Option.mem_toList, List.not_mem_nil, or_false, Value.ownBlock, reduceCtorEq] at hk ⊢
      exact .inl hk
    · have he : S.sync = S.count := by simp [DS.sync, hoff, h0]
      rw [he]
      have h28 : S.count.1 = 28 := by
        unfold DS.count at h0 ⊢
        split
        · rename_i h; simp [h] at h0
        · split
          · rename_i h h'; simp [h, h'] at h0
          · rfl
      obtain ⟨c, S1, hc⟩ : ∃ c S1, S.count = (c, S1) := ⟨_, _, rfl⟩
      rw [hc] at HC h0 h28 ⊢
      simp only at HC h0 h28 ⊢
      subst h28
      unfold ptr at HC ⊢
      go_enter Try.func24, Try.ntmps24
      go_wp2_with fail
      refine HC.out.mono ?_
      rintro e w1 ⟨rfl, hto⟩
      go_wp2
      go_ret
      exact ⟨rfl, hto⟩

end Go.Proofs.Ytdbmimmfpglahaa
