/- The contract of the disk's Fail. -/
import Derived.Test.YtdbmimmfpglahaaDiskSet
namespace Go.Proofs.Ytdbmimmfpglahaa
open Go.RowKit

theorem DkAt.off_end {w : World} {d sb n : Nat} {st : List UInt8} {v1 v2 v3 : Value} (hh : Blk w d 48 #[.slice (some ⟨sb, 0, none⟩) (n * 64) (n * 64), v1, v2, v3]) (hs : Blk w sb 5 (u8s st).toArray)
    (h1 : 1 ≤ n) (h40 : n ≤ 4000) (hl : st.length = n * 64) :
    DkAt (((w.setCell ⟨d, 1, none⟩ (.slice none 0 0)).setCell ⟨d, 2, none⟩ (.bool true)).setCell ⟨d, 3, none⟩ (.pointer none)) d { n := n, st := st, q := [], off := true, arm := none } sb (.slice none 0 0) (.pointer none) := by
  have hne : sb ≠ d := fun e => hh.ne_ hs (by decide) e.symm
  refine ⟨?_, ((hs.far hne _).far hne _).far hne _, ⟨rfl, .inl ⟨rfl, rfl⟩⟩, rfl, ⟨h1, h40, hl, by simp, by simp, by simp⟩⟩
  have := ((hh.set 1 (.slice none 0 0)).set 2 (.bool true)).set 3 (.pointer none)
  simpa using this

theorem DkTo.off_end {w w1 : World} {d sb n : Nat} {st : List UInt8} {v1 v2 v3 qv ap : Value} (hc : Chg (foot d sb qv ap) w w1) (hh : Blk w1 d 48 #[.slice (some ⟨sb, 0, none⟩) (n * 64) (n * 64), v1, v2, v3]) (hs : Blk w1 sb 5 (u8s st).toArray)
    (h1 : 1 ≤ n) (h40 : n ≤ 4000) (hl : st.length = n * 64) :
    DkTo w (((w1.setCell ⟨d, 1, none⟩ (.slice none 0 0)).setCell ⟨d, 2, none⟩ (.bool true)).setCell ⟨d, 3, none⟩ (.pointer none)) d (foot d sb qv ap) { n := n, st := st, q := [], off := true, arm := none } := by
  have hd : d ∈ foot d sb qv ap := by simp [foot]
  refine ⟨_, ⟨sb, _, _, DkAt.off_end hh hs h1 h40 hl, rfl⟩, fun k hk => ?_, ((hc.setCell (p := ⟨d, 1, none⟩) (.inl hd) _).setCell (p := ⟨d, 2, none⟩) (.inl hd) _).setCell (p := ⟨d, 3, none⟩) (.inl hd) _⟩
  simp [foot, ptrBlock, Value.ownBlock] at hk
  left
  rcases hk with rfl | rfl <;> simp [foot]

def torn (st : List UInt8) (o : Option (Nat × ByteArray)) (k : Nat) : List UInt8 := match o with | some p => put st p.1 (p.2.data.toList.take k) | none => st

theorem DkTo.alloc {w w' : World} {d : Nat} {F : List Nat} {S : DS} (h : DkTo w w' d F S) (o : Obj) : DkTo w (w'.alloc o) d F S := by
  obtain ⟨F', h1, h2, h3⟩ := h
  exact ⟨F', h1.chg (F2 := []) (Chg.of_below (below_alloc (Below.refl _ _) o) []) (by simp), h2, h3.alloc o⟩

set_option maxHeartbeats 4000000 in
theorem fail_any (d : Nat) (S : DS) (F : List Nat) (writes bytes : Int) (w : World) (h : Dk w d S F) :
    Calls Try.prog 16 #[ptr d, .int .i64 writes, .int .i64 bytes] w fun e w' => e = .returned (.tuple #[]) ∧ DkTo w w' d F (S.fail writes bytes) := by
  have HD := Lib.hid h
  obtain ⟨sb, qv, ap, hk, rfl⟩ := h
  have HK := Lib.hid hk; clear hk
  have h0 := HK.out.len
  have h1 := HK.out.queue_
  have h2 := HK.out.off_
  have hl := lt_of_cell h0
  have g1 := HK.out.good.n1
  have g40 := HK.out.good.n4000
  have gl := HK.out.good.len
  have gf := HK.out.good.few
  cases hoff : S.off with
  | true =>
    rw [hoff] at h2
    have he : S.fail writes bytes = S := by simp [DS.fail, hoff]
    rw [he]
    unfold ptr
    go_enter Try.func16, Try.ntmps16
    go_wp2
    refine bodyPost_ret (results_none rfl _ _ _) rfl ?_
    exact ⟨rfl, DkTo.of_chg HD.out (Below.refl _ _)⟩
  | false =>
    rw [hoff] at h2
    obtain ⟨A, c, rfl, hc1, hc2, hrd⟩ := Rd.of_own HK.out.queue
    have HQ : Hid (Qs w A S.q) := hrd
    unfold ptr
    obtain ⟨M, hM⟩ : ∃ M, (if writes < 0 then 0 else writes) = M := ⟨_, rfl⟩
    obtain ⟨m, hm, hml⟩ : ∃ m : Nat, (if (S.q.length : Int) < M then (S.q.length : Int) else M) = (m : Int) ∧ m ≤ S.q.length := by
      refine ⟨(if (S.q.length : Int) < M then (S.q.length : Int) else M).toNat, ?_, ?_⟩
      · split at hM <;> split <;> omega
      · split at hM <;> split <;> omega
    obtain ⟨B, hB⟩ : ∃ B, (if bytes < 0 then 0 else bytes) = B := ⟨_, rfl⟩
    obtain ⟨k, hk, hk64⟩ : ∃ k : Nat, (if (64 : Int) < B then 64 else B) = (k : Int) ∧ k ≤ 64 := by
      refine ⟨(if (64 : Int) < B then 64 else B).toNat, ?_, ?_⟩
      · split at hB <;> split <;> omega
      · split at hB <;> split <;> omega
    have hmd : min (max writes 0).toNat S.q.length = m := by split at hM <;> split at hm <;> omega
    have hkd : (min (max bytes 0) 64).toNat = k := by split at hB <;> split at hk <;> omega
    obtain ⟨st1, hst1⟩ : ∃ st1, settle S.st (S.q.take m) = st1 := ⟨_, rfl⟩
    have hst1l : st1.length = S.n * 64 := by rw [← hst1]; exact settle_length S.n _ _ gl (fun p hp => HK.out.good.inq p (List.mem_of_mem_take hp))
    have he : S.fail writes bytes = { n := S.n, st := torn st1 S.q[m]? k, q := [], off := true, arm := none } := by
      simp only [DS.fail, hoff, hmd, hkd, hst1]; rfl
    rw [he]
    obtain ⟨stf, hstf⟩ : ∃ stf, torn st1 S.q[m]? k = stf := ⟨_, rfl⟩
    rw [hstf]
    have HSTF := Lib.hid hstf
    clear hstf
    obtain ⟨a1, a2, a3, a4, a5, a6⟩ := HK.out.apart
    have hAsb : ∀ a, A = some a → a.block ∉ [sb] := by
      rintro a rfl hm
      rw [List.mem_singleton] at hm
      exact a3 (by simp [Value.ownBlock, hm])
    have hAd : ∀ a, A = some a → a.block ≠ d := by
      rintro a rfl hm
      exact a2 (by simp [Value.ownBlock, hm])
    have hdsb : d ∉ [sb] := by simpa using a1
    have HSET := Lib.hid (settle_any d S.n sb S.st A c (S.q.take m) w h0 HK.out.stab gl g40 (fun p hp => HK.out.good.inq p (List.mem_of_mem_take hp)) (HQ.out.take m) hAsb hdsb (by simp; omega))
    rw [List.length_take_of_le hml, hst1] at HSET
    unfold ptr at HSET
    have HM := Lib.hid hmd
    have HKD := Lib.hid hkd
    have HASB := Lib.hid hAsb
    have HST1 := Lib.hid hst1l
    clear he hmd hkd hst1 a1 a2 a3 a4 a5 a6 hAd hrd gl hAsb hst1l
    have hchgF : ∀ j, j ∈ [sb] → j ∈ foot d sb (.slice A S.q.length c) ap ∨ w.heap.size ≤ j := by
      intro j hj
      rw [List.mem_singleton] at hj
      left; simp [foot, hj]
    have HCF := Lib.hid hchgF
    clear hchgF
    go_enter Try.func16, Try.ntmps16
    go_wp2_with fail
    refine HSET.out.mono ?_
    rintro e w1 ⟨rfl, hc1', hb1'⟩
    have HC1 := Lib.hid hc1'
    have HB1 := Lib.hid hb1'
    have HH1 := Lib.hid (HK.out.head.chg hc1' hdsb)
    clear hc1' hb1'
    clear h0 h1 h2
    have h1 : w1.cell? ⟨d, 1, none⟩ = some (.slice A S.q.length c) := HH1.out.cell 1
    have h2 : w1.cell? ⟨d, 2, none⟩ = some (.bool S.off) := HH1.out.cell 2
    have h3 : w1.cell? ⟨d, 3, none⟩ = some ap := HH1.out.cell 3
    have f1 := HH1.out.frozen 1
    have f2 := HH1.out.frozen 2
    have f3 := HH1.out.frozen 3
    by_cases hmq : m < S.q.length
    · obtain ⟨p, hp⟩ := get_some S.q m hmq
      obtain ⟨b, off, rfl, c1, c2, c3⟩ := (HQ.out.chg HC1.out HASB.out).at_ hp
      have c1l := lt_of_cell c1
      have hdl1 : d < w1.heap.size := HH1.out.lt
      obtain ⟨q1, q2⟩ := HK.out.good.inq p (List.mem_of_getElem? hp)
      have HP := Lib.hid hp; clear hp
      by_cases hk0 : 0 < k
      · have HS2 := Lib.hid (set_any d S.n sb p.1 st1 (p.2.extract 0 k) ((w1.alloc (.cells #[.int .i64 ((p.1 : Int) * 64), .int .i64 (((p.1 : Int) + 1) * 64), .string p.2] 59)).drew) (((HH1.out.alloc _).drew).cell 0) ((HB1.out.alloc _).drew) HST1.out q1 g40 (by rw [ByteArray.size_extract]; omega))
        unfold ptr at HS2
        have hb0 : ¬ bytes < 0 := by
          intro hlt
          rw [if_pos hlt] at hB
          subst hB
          simp at hk
          omega
        rw [if_neg hb0] at hB
        subst hB
        have hk64' : (k : Int) ≤ 64 := by omega
        go_wp2_with fail
        refine wp_region_still_tail 7 (by kernel_rfl) (by kernel_rfl) ?_
        simp only [List.take_succ_cons, List.take_zero, List.drop_succ_cons, List.drop_zero]
        change wpStill _ _ (World.drew _) _ _ _
        repeat still_step
        refine wpStill_nil ?_
        change wpList _ _ _ _ _ (World.drew _)
        go_wp2_with fail
        refine HS2.out.mono ?_
        rintro e w2 ⟨rfl, hc2', hb2'⟩
        have hst : put st1 p.1 (p.2.extract 0 k).data.toList = stf := by
          have := HSTF.out
          rw [HP.out] at this
          simpa [torn] using this
        have hpl : (p.2.extract 0 k).data.toList.length ≤ 64 := by
          rw [Array.length_toList]
          change (p.2.extract 0 k).size ≤ 64
          rw [ByteArray.size_extract]; omega
        have HSL : Hid (stf.length = S.n * 64) := by
          show stf.length = S.n * 64
          rw [← hst, put_length _ _ _ (by have := HST1.out; omega)]
          exact HST1.out
        rw [hst] at hb2'
        clear hst hpl
        have HH2 := Lib.hid (((HH1.out.alloc _).drew).chg hc2' hdsb)
        have HCC := Lib.hid (((((Chg.refl _ _).trans HC1.out HCF.out).alloc _).drew).trans hc2' HCF.out)
        have HB2 := Lib.hid hb2'
        clear hc2' hb2' h1 h2 h3 f1 f2 f3 c1 c2 c3
        have h1 := HH2.out.cell 1
        have h2 := HH2.out.cell 2
        have h3 := HH2.out.cell 3
        have f1 := HH2.out.frozen 1
        have f2 := HH2.out.frozen 2
        have f3 := HH2.out.frozen 3
        go_wp2
        go_end0
        refine ⟨rfl, DkTo.off_end HCC.out HH2.out HB2.out g1 g40 ?_⟩
        exact HSL.out
      · have hk00 : k = 0 := by omega
        have hst : st1 = stf := by
          have := HSTF.out
          rw [HP.out, hk00] at this
          simpa [torn, put] using this
        rw [hst] at HB1 HST1
        clear hst
        go_wp2
        go_end0
        exact ⟨rfl, (DkTo.off_end ((Chg.refl _ _).trans HC1.out HCF.out) HH1.out HB1.out g1 g40 HST1.out).alloc _⟩
    · have hst : st1 = stf := by
        have := HSTF.out
        rw [List.getElem?_eq_none (by omega)] at this
        exact this
      rw [hst] at HB1 HST1
      clear hst
      go_wp2
      go_end0
      exact ⟨rfl, DkTo.off_end ((Chg.refl _ _).trans HC1.out HCF.out) HH1.out HB1.out g1 g40 HST1.out⟩

end Go.Proofs.Ytdbmimmfpglahaa
